/- BY PROGRAM (wip/tool/shake.py): own texts, one behind the other, without what is not needed. -/
import Derived.Control
import Derived.Calls
import Derived.KernelRfl
import Derived.Laws.Sem
import Derived.Laws.Cells
import Derived.Laws.World
import GoSem.Dispatch
import Derived.Laws.StructEq
import Derived.IntWalk
import Derived.WideKeyRuns
import Derived.Laws.BytesArg
import Derived.Orders
import Derived.ChangeArms
import Derived.OpenShut
import Derived.ChangeShapes
import Derived.ProofKit
import Derived.Test.YtlkfclgkinaibaaGreatProg
import Derived.Test.YtlkfclgkinaibaaGreatZLST3

namespace Go.Proofs.YtlkfclgkinaibaaGreat
abbrev Mv (d t : Nat) : AIn := ⟨some d, .mv, [.tmp t], none⟩
abbrev Mw (d t s : Nat) (b : Bool) : AIn := ⟨some d, .mv, [.tmp t], some (s, b)⟩
abbrev Mn (d : Nat) (n : Int) : AIn := ⟨some d, .mv, [.lit (.int .i64 n)], none⟩
abbrev Kc (d : Nat) (l : List Opd) : AIn := ⟨some d, .callv, l, none⟩
abbrev Ld (d t : Nat) : AIn := ⟨some d, .load1, [.tmp t], none⟩
abbrev Nc (d t : Nat) : AIn := ⟨some d, .nilCheck, [.tmp t], none⟩
abbrev Fa (d n t : Nat) : AIn := ⟨some d, .fieldAddr n, [.tmp t], none⟩
abbrev Xt (d n t : Nat) : AIn := ⟨some d, .extract n, [.tmp t], none⟩
abbrev Zi : AV := .int .i64 0
abbrev Tt : Opd := .lit (.bool true)
abbrev Tf : Opd := .lit (.bool false)
abbrev Bi (d : Nat) (o : BinOp) (a b : Opd) : AIn := ⟨some d, .bin o, [a, b], none⟩
abbrev ty_frames_Frame : Nat := 80
abbrev ty_int : Nat := 3
abbrev ty_api_PTE : Nat := 204
abbrev n_gosem_cut_init : Nat := 2
def c_gosem_cut_init : AFn := ⟨1, [], .region [Kc 0 [F 1]]⟩
abbrev n_law19_LoanShares : Nat := 5
def c_law19_LoanShares_L0 : ACode :=
 .seq (.seq (.region [Mv 54 11, Mv 55 8, Bi 56 .leq (T 54) (T 55)])
 (.cond (T 56)
 (.skip)
 (.exit 0)))
 (.seq (.block 1 (.seq (.region [Mv 60 7, Kc 61 [F 12, T 60, N 1, N 0], Mv 59 61, Xt 62 0 59, Xt 63 1 59, Mv 12 62, Mv 13 63])
 (.seq (.seq (.region [Mv 64 12, Mv 65 11, Bi 66 .neq (T 64) (T 65), Mv 67 66, Mw 68 13 67 false, IG 69 (.bin .neq) [T 68, N 0] 67 false, I 70 .pick [T 67, Tt, T 69], Mv 71 70, Mw 72 10 71 false, IG 73 (.bin .geq) [T 72, N 0] 71 false, Mw 74 73 71 false, Mw 75 7 74 true, Mw 76 12 74 true, IG 77 .callv [F 17, T 75, T 76] 74 true, Mw 78 10 74 true, IG 79 (.bin .neq) [T 77, T 78] 74 true, IG 80 .pick [T 74, T 79, Tf] 71 false, I 81 .pick [T 71, Tt, T 80]])
 (.cond (T 81)
 (.seq (.region [I 4 .mv [Tf]])
 (.ret))
 (.skip)))
 (.region [Mv 82 7, Mv 83 12, Kc 84 [F 17, T 82, T 83], Mv 10 84]))))
 (.region [Mv 57 11, Bi 58 .add (T 57) (N 1), Mv 11 58]))
def c_law19_LoanShares_L1 : ACode :=
 .seq (.region [Bi 112 .lss (T 111) (T 110)])
 (.seq (.cond (T 112)
 (.skip)
 (.exit 2))
 (.seq (.block 3 (.seq (.region [I 113 (.indexs 1) [T 109, T 111], Ld 114 113, Mv 18 114])
 (.seq (.region [Mv 115 7, Mv 116 18, Kc 117 [F 13, T 115, T 116], Bi 118 .neq (T 117) (N 0)])
 (.cond (T 118)
 (.seq (.region [I 4 .mv [Tf]])
 (.ret))
 (.skip)))))
 (.region [Bi 119 .add (T 111) (N 1), Mv 111 119])))
def c_law19_LoanShares : AFn := ⟨151, [.tmp 4], .seq (.region [I 4 .mv [Tf]])
 (.seq (.region [I 22 (.build (.agg [Zi, Zi, Zi, Zi]) [(0, 1), (2, 1)]) [N 30, N 4], Kc 23 [F 7, T 22, .lit .nilsl], Mv 21 23, Xt 24 0 21, Xt 25 1 21, Mv 5 24, Mv 6 25])
 (.seq (.region [Mv 26 5, Kc 27 [F 11, T 26, N 64], Mv 7 27])
 (.seq (.region [Mv 28 0, I 29 (.bin .rem) [T 28, .lit (.int .u64 40)], I 30 (.conv .i64) [T 29], Bi 31 .add (N 1) (T 30), Mv 8 31])
 (.seq (.seq (.region [Mv 32 6, Bi 33 .neq (T 32) (N 0), Mv 34 33, Mw 35 7 34 false, IG 36 (.eqv false .ptr) [T 35, .lit .nilptr] 34 false, I 37 .pick [T 34, Tt, T 36], Mv 38 37, Mw 39 5 38 false, IG 40 (.build (.agg [Zi, Zi, Zi, Zi, Zi, (.bool false), Zi, Zi, (.bool false), Zi, Zi, Zi, Zi, Zi]) [(0, 1), (1, 1), (2, 1), (3, 1), (4, 1), (8, 1)]) [N 1, N 1, N 0, N 1, N 3, Tt] 38 false, IG 41 .callv [F 8, T 39, T 40] 38 false, IG 42 (.field 0 1 false) [T 41] 38 false, IG 43 (.bin .neq) [T 42, N 0] 38 false, I 44 .pick [T 38, Tt, T 43], Mv 45 44, Mw 46 5 45 false, IG 47 (.build (.agg [Zi, Zi, Zi, Zi, Zi, (.bool false), Zi, Zi, (.bool false), Zi, Zi, Zi, Zi, Zi]) [(0, 1), (1, 1), (11, 1)]) [N 9, N 1, N 5] 45 false, IG 48 .callv [F 8, T 46, T 47] 45 false, IG 49 (.field 0 1 false) [T 48] 45 false, IG 50 (.bin .neq) [T 49, N 0] 45 false, I 51 .pick [T 45, Tt, T 50]])
 (.cond (T 51)
 (.seq (.region [I 4 .mv [Tf]])
 (.ret))
 (.skip)))
 (.seq (.region [Mv 52 5, Kc 53 [F 16, T 52], Mv 9 53])
 (.seq (.region [Mn 10 (-1)])
 (.seq (.seq (.region [Mn 11 1])
 (.block 0 (.loop c_law19_LoanShares_L0)))
 (.seq (.seq (.region [Mv 85 5, Kc 86 [F 16, T 85], Mv 87 9, Bi 88 .lss (T 86) (T 87), Mv 89 88, Mw 90 5 89 false, Mw 91 1 89 false, IG 92 (.bin .rem) [T 91, .lit (.int .u64 256)] 89 false, IG 93 (.conv .i64) [T 92] 89 false, IG 94 (.build (.agg [Zi, Zi, Zi, Zi, Zi, (.bool false), Zi, Zi, (.bool false), Zi, Zi, Zi, Zi, Zi]) [(0, 1), (1, 1), (11, 1)]) [N 9, N 1, T 93] 89 false, IG 95 .callv [F 8, T 90, T 94] 89 false, IG 96 (.field 0 1 false) [T 95] 89 false, IG 97 (.bin .neq) [T 96, N 0] 89 false, I 98 .pick [T 89, Tt, T 97]])
 (.cond (T 98)
 (.seq (.region [I 4 .mv [Tf]])
 (.ret))
 (.skip)))
 (.seq (.region [Mv 100 7, Mv 101 8, Kc 102 [F 18, T 100, T 101, N 0], Mv 99 102, Xt 103 0 99, Xt 104 1 99, Mv 14 103, Mv 15 104])
 (.seq (.region [Mv 105 5, Kc 106 [F 9, T 105], I 107 .lens [T 106], Mv 16 107])
 (.seq (.seq (.region [Mv 108 7, Kc 109 [F 14, T 108], I 110 .lens [T 109], Mn 111 0])
 (.block 2 (.loop c_law19_LoanShares_L1)))
 (.seq (.region [Mv 121 5, Kc 122 [F 19, T 121, N 1, N 0, N 0], Mv 120 122, Xt 123 0 120, Xt 124 1 120, Mv 19 123, Mv 20 124])
 (.seq (.region (Mv 125 14 ::
 Bi 126 .eql (T 125) (N 5) ::
 Mv 127 126 ::
 Mw 128 16 127 true ::
 IG 129 (.bin .eql) [T 128, N 1] 127 true ::
 I 130 .pick [T 127, T 129, Tf] ::
 Mv 131 130 ::
 Mw 132 19 131 true ::
 Mw 133 1 131 true ::
 IG 134 (.bin .rem) [T 133, .lit (.int .u64 256)] 131 true ::
 IG 135 (.conv .i64) [T 134] 131 true ::
 IG 136 (.bin .eql) [T 132, T 135] 131 true ::
 I 137 .pick [T 131, T 136, Tf] ::
 Mv 138 137 ::
 Mw 139 20 138 true ::
 IG 140 (.bin .eql) [T 139, N 0] 138 true ::
 I 141 .pick [T 138, T 140, Tf] ::
 Mv 142 141 ::
 Mw 143 5 142 true ::
 IG 144 .callv [F 16, T 143] 142 true ::
 Mw 145 9 142 true ::
 IG 146 (.bin .eql) [T 144, T 145] 142 true ::
 I 147 .pick [T 142, T 146, Tf] ::
 Mv 148 147 ::
 IG 149 .callv [F 15] 148 true ::
 I 150 .pick [T 148, T 149, Tf] ::
 Mv 4 150 ::
 []))
 (.ret))))))))))))))⟩
abbrev n_kern_New : Nat := 7
def c_kern_New_L0 : ACode :=
 .seq (.region [Bi 42 .lss (T 41) (T 40)])
 (.seq (.cond (T 42)
 (.skip)
 (.exit 0))
 (.seq (.block 1 (.seq (.region [I 43 (.indexs 1) [T 39, T 41], Ld 44 43, Mv 8 44])
 (.region [Mv 45 6, Nc 46 45, Fa 47 4 46, Ld 48 47, Mv 49 8, Kc 50 [F 33, T 48, T 49]])))
 (.region [Bi 51 .add (T 41) (N 1), Mv 41 51])))
def c_kern_New : AFn := ⟨61, [.tmp 4, .tmp 5], .seq (.region [I 2 (.box 28 4) [T 0], I 4 .mv [.lit .nilptr], Mn 5 0])
 (.seq (.seq (.region [I 11 (.loadn 4) [T 2], Mv 12 1, Kc 13 [F 23, T 11, T 12], I 14 (.un .not) [T 13]])
 (.cond (T 14)
 (.seq (.region [I 4 .mv [.lit .nilptr], Mn 5 2])
 (.ret))
 (.skip)))
 (.seq (.draw [(⟨0, Fa 15 0 2, [], false⟩ ::
 ⟨1, Ld 16 15, [], false⟩ ::
 ⟨3, Fa 18 0 2, [], false⟩ ::
 ⟨4, Ld 19 18, [], false⟩ ::
 ⟨5, Fa 20 1 2, [], false⟩ ::
 ⟨6, Ld 21 20, [], false⟩ ::
 ⟨8, Fa 23 2 2, [], false⟩ ::
 ⟨9, Ld 24 23, [], false⟩ ::
 ⟨11, Fa 26 2 2, [], false⟩ ::
 ⟨12, Ld 27 26, [], false⟩ ::
 ⟨18, Fa 33 3 2, [], false⟩ ::
 ⟨19, Ld 34 33, [], false⟩ ::
 ⟨2, Kc 17 [F 24, T 16], [(4, Ld 19 18), (6, Ld 21 20), (9, Ld 24 23), (12, Ld 27 26), (19, Ld 34 33)], false⟩ ::
 ⟨7, Kc 22 [F 25, T 19, T 21], [(9, Ld 24 23), (12, Ld 27 26), (19, Ld 34 33)], false⟩ ::
 ⟨10, Kc 25 [F 26, T 24], [(12, Ld 27 26), (19, Ld 34 33)], false⟩ ::
 ⟨13, Kc 28 [F 27, T 27], [(19, Ld 34 33)], false⟩ ::
 ⟨14, Kc 29 [F 28], [(19, Ld 34 33)], false⟩ ::
 ⟨15, Kc 30 [F 29, N 4096], [(19, Ld 34 33)], false⟩ ::
 ⟨16, Kc 31 [F 30, N 4096], [(19, Ld 34 33)], false⟩ ::
 ⟨17, Kc 32 [F 31, N 4096], [(19, Ld 34 33)], false⟩ ::
 ⟨20, Kc 35 [F 32, T 34], [], false⟩ ::
 ⟨21, I 36 (.mkmap) [], [(1, Ld 16 15), (4, Ld 19 18), (6, Ld 21 20), (9, Ld 24 23), (12, Ld 27 26), (19, Ld 34 33)], false⟩ ::
 ⟨22, I 37 (.build (.agg [.nilptr, .nilptr, .nilptr, .nilptr, .nilptr, .nilptr, .nilptr, .nilptr, .nilptr, .nilmap, Zi]) [(0, 1), (1, 1), (2, 1), (3, 1), (4, 1), (5, 1), (6, 1), (7, 1), (8, 1), (9, 1), (10, 1)]) [T 17, T 22, T 25, T 28, T 29, T 30, T 31, T 32, T 35, T 36, N 1000], [], false⟩ ::
 ⟨23, I 38 (.box 69 11) [T 37], [], false⟩ ::
 ⟨24, Mv 6 38, [], false⟩ ::
 []),
(⟨0, Fa 15 0 2, [], false⟩ ::
 ⟨1, Ld 16 15, [], false⟩ ::
 ⟨3, Fa 18 0 2, [], false⟩ ::
 ⟨4, Ld 19 18, [], false⟩ ::
 ⟨5, Fa 20 1 2, [], false⟩ ::
 ⟨6, Ld 21 20, [], false⟩ ::
 ⟨8, Fa 23 2 2, [], false⟩ ::
 ⟨9, Ld 24 23, [], false⟩ ::
 ⟨11, Fa 26 2 2, [], false⟩ ::
 ⟨12, Ld 27 26, [], false⟩ ::
 ⟨18, Fa 33 3 2, [], false⟩ ::
 ⟨19, Ld 34 33, [], false⟩ ::
 ⟨2, Kc 17 [F 24, T 16], [(4, Ld 19 18), (6, Ld 21 20), (9, Ld 24 23), (12, Ld 27 26), (19, Ld 34 33)], false⟩ ::
 ⟨7, Kc 22 [F 25, T 19, T 21], [(9, Ld 24 23), (12, Ld 27 26), (19, Ld 34 33)], false⟩ ::
 ⟨10, Kc 25 [F 26, T 24], [(12, Ld 27 26), (19, Ld 34 33)], false⟩ ::
 ⟨13, Kc 28 [F 27, T 27], [(19, Ld 34 33)], false⟩ ::
 ⟨14, Kc 29 [F 28], [(19, Ld 34 33)], false⟩ ::
 ⟨15, Kc 30 [F 29, N 4096], [(19, Ld 34 33)], false⟩ ::
 ⟨16, Kc 31 [F 30, N 4096], [(19, Ld 34 33)], false⟩ ::
 ⟨17, Kc 32 [F 31, N 4096], [(19, Ld 34 33)], false⟩ ::
 ⟨21, I 36 (.mkmap) [], [(1, Ld 16 15), (4, Ld 19 18), (6, Ld 21 20), (9, Ld 24 23), (12, Ld 27 26), (19, Ld 34 33)], false⟩ ::
 ⟨20, Kc 35 [F 32, T 34], [], false⟩ ::
 ⟨22, I 37 (.build (.agg [.nilptr, .nilptr, .nilptr, .nilptr, .nilptr, .nilptr, .nilptr, .nilptr, .nilptr, .nilmap, Zi]) [(0, 1), (1, 1), (2, 1), (3, 1), (4, 1), (5, 1), (6, 1), (7, 1), (8, 1), (9, 1), (10, 1)]) [T 17, T 22, T 25, T 28, T 29, T 30, T 31, T 32, T 35, T 36, N 1000], [], false⟩ ::
 ⟨23, I 38 (.box 69 11) [T 37], [], false⟩ ::
 ⟨24, Mv 6 38, [], false⟩ ::
 []),
(⟨0, Fa 15 0 2, [], false⟩ ::
 ⟨1, Ld 16 15, [], false⟩ ::
 ⟨3, Fa 18 0 2, [], false⟩ ::
 ⟨4, Ld 19 18, [], false⟩ ::
 ⟨5, Fa 20 1 2, [], false⟩ ::
 ⟨6, Ld 21 20, [], false⟩ ::
 ⟨8, Fa 23 2 2, [], false⟩ ::
 ⟨9, Ld 24 23, [], false⟩ ::
 ⟨11, Fa 26 2 2, [], false⟩ ::
 ⟨12, Ld 27 26, [], false⟩ ::
 ⟨18, Fa 33 3 2, [], false⟩ ::
 ⟨19, Ld 34 33, [], false⟩ ::
 ⟨2, Kc 17 [F 24, T 16], [(4, Ld 19 18), (6, Ld 21 20), (9, Ld 24 23), (12, Ld 27 26), (19, Ld 34 33)], false⟩ ::
 ⟨7, Kc 22 [F 25, T 19, T 21], [(9, Ld 24 23), (12, Ld 27 26), (19, Ld 34 33)], false⟩ ::
 ⟨10, Kc 25 [F 26, T 24], [(12, Ld 27 26), (19, Ld 34 33)], false⟩ ::
 ⟨13, Kc 28 [F 27, T 27], [(19, Ld 34 33)], false⟩ ::
 ⟨14, Kc 29 [F 28], [(19, Ld 34 33)], false⟩ ::
 ⟨15, Kc 30 [F 29, N 4096], [(19, Ld 34 33)], false⟩ ::
 ⟨16, Kc 31 [F 30, N 4096], [(19, Ld 34 33)], false⟩ ::
 ⟨21, I 36 (.mkmap) [], [(1, Ld 16 15), (4, Ld 19 18), (6, Ld 21 20), (9, Ld 24 23), (12, Ld 27 26), (19, Ld 34 33)], false⟩ ::
 ⟨17, Kc 32 [F 31, N 4096], [(19, Ld 34 33)], false⟩ ::
 ⟨20, Kc 35 [F 32, T 34], [], false⟩ ::
 ⟨22, I 37 (.build (.agg [.nilptr, .nilptr, .nilptr, .nilptr, .nilptr, .nilptr, .nilptr, .nilptr, .nilptr, .nilmap, Zi]) [(0, 1), (1, 1), (2, 1), (3, 1), (4, 1), (5, 1), (6, 1), (7, 1), (8, 1), (9, 1), (10, 1)]) [T 17, T 22, T 25, T 28, T 29, T 30, T 31, T 32, T 35, T 36, N 1000], [], false⟩ ::
 ⟨23, I 38 (.box 69 11) [T 37], [], false⟩ ::
 ⟨24, Mv 6 38, [], false⟩ ::
 []),
(⟨0, Fa 15 0 2, [], false⟩ ::
 ⟨1, Ld 16 15, [], false⟩ ::
 ⟨3, Fa 18 0 2, [], false⟩ ::
 ⟨4, Ld 19 18, [], false⟩ ::
 ⟨5, Fa 20 1 2, [], false⟩ ::
 ⟨6, Ld 21 20, [], false⟩ ::
 ⟨8, Fa 23 2 2, [], false⟩ ::
 ⟨9, Ld 24 23, [], false⟩ ::
 ⟨11, Fa 26 2 2, [], false⟩ ::
 ⟨12, Ld 27 26, [], false⟩ ::
 ⟨18, Fa 33 3 2, [], false⟩ ::
 ⟨19, Ld 34 33, [], false⟩ ::
 ⟨2, Kc 17 [F 24, T 16], [(4, Ld 19 18), (6, Ld 21 20), (9, Ld 24 23), (12, Ld 27 26), (19, Ld 34 33)], false⟩ ::
 ⟨7, Kc 22 [F 25, T 19, T 21], [(9, Ld 24 23), (12, Ld 27 26), (19, Ld 34 33)], false⟩ ::
 ⟨10, Kc 25 [F 26, T 24], [(12, Ld 27 26), (19, Ld 34 33)], false⟩ ::
 ⟨13, Kc 28 [F 27, T 27], [(19, Ld 34 33)], false⟩ ::
 ⟨14, Kc 29 [F 28], [(19, Ld 34 33)], false⟩ ::
 ⟨15, Kc 30 [F 29, N 4096], [(19, Ld 34 33)], false⟩ ::
 ⟨21, I 36 (.mkmap) [], [(1, Ld 16 15), (4, Ld 19 18), (6, Ld 21 20), (9, Ld 24 23), (12, Ld 27 26), (19, Ld 34 33)], false⟩ ::
 ⟨16, Kc 31 [F 30, N 4096], [(19, Ld 34 33)], false⟩ ::
 ⟨17, Kc 32 [F 31, N 4096], [(19, Ld 34 33)], false⟩ ::
 ⟨20, Kc 35 [F 32, T 34], [], false⟩ ::
 ⟨22, I 37 (.build (.agg [.nilptr, .nilptr, .nilptr, .nilptr, .nilptr, .nilptr, .nilptr, .nilptr, .nilptr, .nilmap, Zi]) [(0, 1), (1, 1), (2, 1), (3, 1), (4, 1), (5, 1), (6, 1), (7, 1), (8, 1), (9, 1), (10, 1)]) [T 17, T 22, T 25, T 28, T 29, T 30, T 31, T 32, T 35, T 36, N 1000], [], false⟩ ::
 ⟨23, I 38 (.box 69 11) [T 37], [], false⟩ ::
 ⟨24, Mv 6 38, [], false⟩ ::
 []),
(⟨0, Fa 15 0 2, [], false⟩ ::
 ⟨1, Ld 16 15, [], false⟩ ::
 ⟨3, Fa 18 0 2, [], false⟩ ::
 ⟨4, Ld 19 18, [], false⟩ ::
 ⟨5, Fa 20 1 2, [], false⟩ ::
 ⟨6, Ld 21 20, [], false⟩ ::
 ⟨8, Fa 23 2 2, [], false⟩ ::
 ⟨9, Ld 24 23, [], false⟩ ::
 ⟨11, Fa 26 2 2, [], false⟩ ::
 ⟨12, Ld 27 26, [], false⟩ ::
 ⟨18, Fa 33 3 2, [], false⟩ ::
 ⟨19, Ld 34 33, [], false⟩ ::
 ⟨2, Kc 17 [F 24, T 16], [(4, Ld 19 18), (6, Ld 21 20), (9, Ld 24 23), (12, Ld 27 26), (19, Ld 34 33)], false⟩ ::
 ⟨7, Kc 22 [F 25, T 19, T 21], [(9, Ld 24 23), (12, Ld 27 26), (19, Ld 34 33)], false⟩ ::
 ⟨10, Kc 25 [F 26, T 24], [(12, Ld 27 26), (19, Ld 34 33)], false⟩ ::
 ⟨13, Kc 28 [F 27, T 27], [(19, Ld 34 33)], false⟩ ::
 ⟨14, Kc 29 [F 28], [(19, Ld 34 33)], false⟩ ::
 ⟨21, I 36 (.mkmap) [], [(1, Ld 16 15), (4, Ld 19 18), (6, Ld 21 20), (9, Ld 24 23), (12, Ld 27 26), (19, Ld 34 33)], false⟩ ::
 ⟨15, Kc 30 [F 29, N 4096], [(19, Ld 34 33)], false⟩ ::
 ⟨16, Kc 31 [F 30, N 4096], [(19, Ld 34 33)], false⟩ ::
 ⟨17, Kc 32 [F 31, N 4096], [(19, Ld 34 33)], false⟩ ::
 ⟨20, Kc 35 [F 32, T 34], [], false⟩ ::
 ⟨22, I 37 (.build (.agg [.nilptr, .nilptr, .nilptr, .nilptr, .nilptr, .nilptr, .nilptr, .nilptr, .nilptr, .nilmap, Zi]) [(0, 1), (1, 1), (2, 1), (3, 1), (4, 1), (5, 1), (6, 1), (7, 1), (8, 1), (9, 1), (10, 1)]) [T 17, T 22, T 25, T 28, T 29, T 30, T 31, T 32, T 35, T 36, N 1000], [], false⟩ ::
 ⟨23, I 38 (.box 69 11) [T 37], [], false⟩ ::
 ⟨24, Mv 6 38, [], false⟩ ::
 []),
(⟨0, Fa 15 0 2, [], false⟩ ::
 ⟨1, Ld 16 15, [], false⟩ ::
 ⟨3, Fa 18 0 2, [], false⟩ ::
 ⟨4, Ld 19 18, [], false⟩ ::
 ⟨5, Fa 20 1 2, [], false⟩ ::
 ⟨6, Ld 21 20, [], false⟩ ::
 ⟨8, Fa 23 2 2, [], false⟩ ::
 ⟨9, Ld 24 23, [], false⟩ ::
 ⟨11, Fa 26 2 2, [], false⟩ ::
 ⟨12, Ld 27 26, [], false⟩ ::
 ⟨18, Fa 33 3 2, [], false⟩ ::
 ⟨19, Ld 34 33, [], false⟩ ::
 ⟨2, Kc 17 [F 24, T 16], [(4, Ld 19 18), (6, Ld 21 20), (9, Ld 24 23), (12, Ld 27 26), (19, Ld 34 33)], false⟩ ::
 ⟨7, Kc 22 [F 25, T 19, T 21], [(9, Ld 24 23), (12, Ld 27 26), (19, Ld 34 33)], false⟩ ::
 ⟨10, Kc 25 [F 26, T 24], [(12, Ld 27 26), (19, Ld 34 33)], false⟩ ::
 ⟨13, Kc 28 [F 27, T 27], [(19, Ld 34 33)], false⟩ ::
 ⟨21, I 36 (.mkmap) [], [(1, Ld 16 15), (4, Ld 19 18), (6, Ld 21 20), (9, Ld 24 23), (12, Ld 27 26), (19, Ld 34 33)], false⟩ ::
 ⟨14, Kc 29 [F 28], [(19, Ld 34 33)], false⟩ ::
 ⟨15, Kc 30 [F 29, N 4096], [(19, Ld 34 33)], false⟩ ::
 ⟨16, Kc 31 [F 30, N 4096], [(19, Ld 34 33)], false⟩ ::
 ⟨17, Kc 32 [F 31, N 4096], [(19, Ld 34 33)], false⟩ ::
 ⟨20, Kc 35 [F 32, T 34], [], false⟩ ::
 ⟨22, I 37 (.build (.agg [.nilptr, .nilptr, .nilptr, .nilptr, .nilptr, .nilptr, .nilptr, .nilptr, .nilptr, .nilmap, Zi]) [(0, 1), (1, 1), (2, 1), (3, 1), (4, 1), (5, 1), (6, 1), (7, 1), (8, 1), (9, 1), (10, 1)]) [T 17, T 22, T 25, T 28, T 29, T 30, T 31, T 32, T 35, T 36, N 1000], [], false⟩ ::
 ⟨23, I 38 (.box 69 11) [T 37], [], false⟩ ::
 ⟨24, Mv 6 38, [], false⟩ ::
 []),
(⟨0, Fa 15 0 2, [], false⟩ ::
 ⟨1, Ld 16 15, [], false⟩ ::
 ⟨3, Fa 18 0 2, [], false⟩ ::
 ⟨4, Ld 19 18, [], false⟩ ::
 ⟨5, Fa 20 1 2, [], false⟩ ::
 ⟨6, Ld 21 20, [], false⟩ ::
 ⟨8, Fa 23 2 2, [], false⟩ ::
 ⟨9, Ld 24 23, [], false⟩ ::
 ⟨11, Fa 26 2 2, [], false⟩ ::
 ⟨12, Ld 27 26, [], false⟩ ::
 ⟨18, Fa 33 3 2, [], false⟩ ::
 ⟨19, Ld 34 33, [], false⟩ ::
 ⟨2, Kc 17 [F 24, T 16], [(4, Ld 19 18), (6, Ld 21 20), (9, Ld 24 23), (12, Ld 27 26), (19, Ld 34 33)], false⟩ ::
 ⟨7, Kc 22 [F 25, T 19, T 21], [(9, Ld 24 23), (12, Ld 27 26), (19, Ld 34 33)], false⟩ ::
 ⟨10, Kc 25 [F 26, T 24], [(12, Ld 27 26), (19, Ld 34 33)], false⟩ ::
 ⟨21, I 36 (.mkmap) [], [(1, Ld 16 15), (4, Ld 19 18), (6, Ld 21 20), (9, Ld 24 23), (12, Ld 27 26), (19, Ld 34 33)], false⟩ ::
 ⟨13, Kc 28 [F 27, T 27], [(19, Ld 34 33)], false⟩ ::
 ⟨14, Kc 29 [F 28], [(19, Ld 34 33)], false⟩ ::
 ⟨15, Kc 30 [F 29, N 4096], [(19, Ld 34 33)], false⟩ ::
 ⟨16, Kc 31 [F 30, N 4096], [(19, Ld 34 33)], false⟩ ::
 ⟨17, Kc 32 [F 31, N 4096], [(19, Ld 34 33)], false⟩ ::
 ⟨20, Kc 35 [F 32, T 34], [], false⟩ ::
 ⟨22, I 37 (.build (.agg [.nilptr, .nilptr, .nilptr, .nilptr, .nilptr, .nilptr, .nilptr, .nilptr, .nilptr, .nilmap, Zi]) [(0, 1), (1, 1), (2, 1), (3, 1), (4, 1), (5, 1), (6, 1), (7, 1), (8, 1), (9, 1), (10, 1)]) [T 17, T 22, T 25, T 28, T 29, T 30, T 31, T 32, T 35, T 36, N 1000], [], false⟩ ::
 ⟨23, I 38 (.box 69 11) [T 37], [], false⟩ ::
 ⟨24, Mv 6 38, [], false⟩ ::
 []),
(⟨0, Fa 15 0 2, [], false⟩ ::
 ⟨1, Ld 16 15, [], false⟩ ::
 ⟨3, Fa 18 0 2, [], false⟩ ::
 ⟨4, Ld 19 18, [], false⟩ ::
 ⟨5, Fa 20 1 2, [], false⟩ ::
 ⟨6, Ld 21 20, [], false⟩ ::
 ⟨8, Fa 23 2 2, [], false⟩ ::
 ⟨9, Ld 24 23, [], false⟩ ::
 ⟨11, Fa 26 2 2, [], false⟩ ::
 ⟨12, Ld 27 26, [], false⟩ ::
 ⟨18, Fa 33 3 2, [], false⟩ ::
 ⟨19, Ld 34 33, [], false⟩ ::
 ⟨2, Kc 17 [F 24, T 16], [(4, Ld 19 18), (6, Ld 21 20), (9, Ld 24 23), (12, Ld 27 26), (19, Ld 34 33)], false⟩ ::
 ⟨7, Kc 22 [F 25, T 19, T 21], [(9, Ld 24 23), (12, Ld 27 26), (19, Ld 34 33)], false⟩ ::
 ⟨21, I 36 (.mkmap) [], [(1, Ld 16 15), (4, Ld 19 18), (6, Ld 21 20), (9, Ld 24 23), (12, Ld 27 26), (19, Ld 34 33)], false⟩ ::
 ⟨10, Kc 25 [F 26, T 24], [(12, Ld 27 26), (19, Ld 34 33)], false⟩ ::
 ⟨13, Kc 28 [F 27, T 27], [(19, Ld 34 33)], false⟩ ::
 ⟨14, Kc 29 [F 28], [(19, Ld 34 33)], false⟩ ::
 ⟨15, Kc 30 [F 29, N 4096], [(19, Ld 34 33)], false⟩ ::
 ⟨16, Kc 31 [F 30, N 4096], [(19, Ld 34 33)], false⟩ ::
 ⟨17, Kc 32 [F 31, N 4096], [(19, Ld 34 33)], false⟩ ::
 ⟨20, Kc 35 [F 32, T 34], [], false⟩ ::
 ⟨22, I 37 (.build (.agg [.nilptr, .nilptr, .nilptr, .nilptr, .nilptr, .nilptr, .nilptr, .nilptr, .nilptr, .nilmap, Zi]) [(0, 1), (1, 1), (2, 1), (3, 1), (4, 1), (5, 1), (6, 1), (7, 1), (8, 1), (9, 1), (10, 1)]) [T 17, T 22, T 25, T 28, T 29, T 30, T 31, T 32, T 35, T 36, N 1000], [], false⟩ ::
 ⟨23, I 38 (.box 69 11) [T 37], [], false⟩ ::
 ⟨24, Mv 6 38, [], false⟩ ::
 []),
(⟨0, Fa 15 0 2, [], false⟩ ::
 ⟨1, Ld 16 15, [], false⟩ ::
 ⟨3, Fa 18 0 2, [], false⟩ ::
 ⟨4, Ld 19 18, [], false⟩ ::
 ⟨5, Fa 20 1 2, [], false⟩ ::
 ⟨6, Ld 21 20, [], false⟩ ::
 ⟨8, Fa 23 2 2, [], false⟩ ::
 ⟨9, Ld 24 23, [], false⟩ ::
 ⟨11, Fa 26 2 2, [], false⟩ ::
 ⟨12, Ld 27 26, [], false⟩ ::
 ⟨18, Fa 33 3 2, [], false⟩ ::
 ⟨19, Ld 34 33, [], false⟩ ::
 ⟨2, Kc 17 [F 24, T 16], [(4, Ld 19 18), (6, Ld 21 20), (9, Ld 24 23), (12, Ld 27 26), (19, Ld 34 33)], false⟩ ::
 ⟨21, I 36 (.mkmap) [], [(1, Ld 16 15), (4, Ld 19 18), (6, Ld 21 20), (9, Ld 24 23), (12, Ld 27 26), (19, Ld 34 33)], false⟩ ::
 ⟨7, Kc 22 [F 25, T 19, T 21], [(9, Ld 24 23), (12, Ld 27 26), (19, Ld 34 33)], false⟩ ::
 ⟨10, Kc 25 [F 26, T 24], [(12, Ld 27 26), (19, Ld 34 33)], false⟩ ::
 ⟨13, Kc 28 [F 27, T 27], [(19, Ld 34 33)], false⟩ ::
 ⟨14, Kc 29 [F 28], [(19, Ld 34 33)], false⟩ ::
 ⟨15, Kc 30 [F 29, N 4096], [(19, Ld 34 33)], false⟩ ::
 ⟨16, Kc 31 [F 30, N 4096], [(19, Ld 34 33)], false⟩ ::
 ⟨17, Kc 32 [F 31, N 4096], [(19, Ld 34 33)], false⟩ ::
 ⟨20, Kc 35 [F 32, T 34], [], false⟩ ::
 ⟨22, I 37 (.build (.agg [.nilptr, .nilptr, .nilptr, .nilptr, .nilptr, .nilptr, .nilptr, .nilptr, .nilptr, .nilmap, Zi]) [(0, 1), (1, 1), (2, 1), (3, 1), (4, 1), (5, 1), (6, 1), (7, 1), (8, 1), (9, 1), (10, 1)]) [T 17, T 22, T 25, T 28, T 29, T 30, T 31, T 32, T 35, T 36, N 1000], [], false⟩ ::
 ⟨23, I 38 (.box 69 11) [T 37], [], false⟩ ::
 ⟨24, Mv 6 38, [], false⟩ ::
 []),
(⟨0, Fa 15 0 2, [], false⟩ ::
 ⟨1, Ld 16 15, [], false⟩ ::
 ⟨3, Fa 18 0 2, [], false⟩ ::
 ⟨4, Ld 19 18, [], false⟩ ::
 ⟨5, Fa 20 1 2, [], false⟩ ::
 ⟨6, Ld 21 20, [], false⟩ ::
 ⟨8, Fa 23 2 2, [], false⟩ ::
 ⟨9, Ld 24 23, [], false⟩ ::
 ⟨11, Fa 26 2 2, [], false⟩ ::
 ⟨12, Ld 27 26, [], false⟩ ::
 ⟨18, Fa 33 3 2, [], false⟩ ::
 ⟨19, Ld 34 33, [], false⟩ ::
 ⟨21, I 36 (.mkmap) [], [(1, Ld 16 15), (4, Ld 19 18), (6, Ld 21 20), (9, Ld 24 23), (12, Ld 27 26), (19, Ld 34 33)], false⟩ ::
 ⟨2, Kc 17 [F 24, T 16], [(4, Ld 19 18), (6, Ld 21 20), (9, Ld 24 23), (12, Ld 27 26), (19, Ld 34 33)], false⟩ ::
 ⟨7, Kc 22 [F 25, T 19, T 21], [(9, Ld 24 23), (12, Ld 27 26), (19, Ld 34 33)], false⟩ ::
 ⟨10, Kc 25 [F 26, T 24], [(12, Ld 27 26), (19, Ld 34 33)], false⟩ ::
 ⟨13, Kc 28 [F 27, T 27], [(19, Ld 34 33)], false⟩ ::
 ⟨14, Kc 29 [F 28], [(19, Ld 34 33)], false⟩ ::
 ⟨15, Kc 30 [F 29, N 4096], [(19, Ld 34 33)], false⟩ ::
 ⟨16, Kc 31 [F 30, N 4096], [(19, Ld 34 33)], false⟩ ::
 ⟨17, Kc 32 [F 31, N 4096], [(19, Ld 34 33)], false⟩ ::
 ⟨20, Kc 35 [F 32, T 34], [], false⟩ ::
 ⟨22, I 37 (.build (.agg [.nilptr, .nilptr, .nilptr, .nilptr, .nilptr, .nilptr, .nilptr, .nilptr, .nilptr, .nilmap, Zi]) [(0, 1), (1, 1), (2, 1), (3, 1), (4, 1), (5, 1), (6, 1), (7, 1), (8, 1), (9, 1), (10, 1)]) [T 17, T 22, T 25, T 28, T 29, T 30, T 31, T 32, T 35, T 36, N 1000], [], false⟩ ::
 ⟨23, I 38 (.box 69 11) [T 37], [], false⟩ ::
 ⟨24, Mv 6 38, [], false⟩ ::
 [])])
 (.seq (.seq (.region [Mv 39 1, I 40 .lens [T 39], Mn 41 0])
 (.block 0 (.loop c_kern_New_L0)))
 (.seq (.seq (.region [Mv 53 6, Kc 54 [F 34, T 53], Mv 52 54, Xt 55 0 52, Xt 56 1 52, Mv 9 55, Mv 10 56])
 (.seq (.region [Mv 57 10, Bi 58 .neq (T 57) (N 0)])
 (.cond (T 58)
 (.seq (.region [Mv 59 10, I 4 .mv [.lit .nilptr], Mv 5 59])
 (.ret))
 (.skip))))
 (.seq (.region [Mv 60 6, Mv 4 60, Mn 5 0])
 (.ret))))))⟩
abbrev n_kern_Kernel_Do : Nat := 8
def c_kern_Kernel_Do : AFn := ⟨81, [.cell 4 (.loadn 2)], .seq (.region [I 3 (.box 33 14) [T 1], I 4 (.alloc 30 2 (.vals [Zi, Zi])) []])
 (.seq (.seq (.region [Mv 6 0, Kc 7 [F 35, T 6], I 8 (.un .not) [T 7]])
 (.cond (T 8)
 (.seq (.region [Kc 9 [F 36, N 1], J (.store 2) [T 4, T 9]])
 (.ret))
 (.skip)))
 (.seq (.seq (.region [Fa 10 0 3, Ld 11 10])
 (.block 0 (.seq (.seq (.region [Bi 13 .eql (T 11) (N 15), Mv 12 13])
 (.cond (T 12)
 (.skip)
 (.seq (.region [Bi 14 .eql (T 11) (N 16), Mv 12 14])
 (.cond (T 12)
 (.skip)
 (.seq (.region [Bi 15 .eql (T 11) (N 17), Mv 12 15])
 (.cond (T 12)
 (.skip)
 (.region [Bi 16 .eql (T 11) (N 18), Mv 12 16])))))))
 (.cond (T 12)
 (.seq (.region [Mv 17 0, I 18 (.loadn 14) [T 3], Kc 19 [F 37, T 17, T 18], J (.store 2) [T 4, T 19]])
 (.ret))
 (.skip)))))
 (.seq (.seq (.region [Fa 20 0 3, Ld 21 20, Bi 22 .lss (T 21) (N 1), Mv 23 22, IG 24 (.fieldAddr 0) [T 3] 23 false, IG 25 .load1 [T 24] 23 false, IG 26 (.bin .gtr) [T 25, N 11] 23 false, Mw 27 26 23 false, IG 28 (.fieldAddr 0) [T 3] 27 true, IG 29 .load1 [T 28] 27 true, IG 30 (.bin .neq) [T 29, N 20] 27 true, IG 31 .pick [T 27, T 30, Tf] 23 false, I 32 .pick [T 23, Tt, T 31]])
 (.cond (T 32)
 (.seq (.region [Kc 33 [F 36, N 2], J (.store 2) [T 4, T 33]])
 (.ret))
 (.skip)))
 (.seq (.draw [[⟨0, Mv 34 0, [], false⟩, ⟨1, Nc 35 34, [], false⟩, ⟨2, Fa 36 9 35, [], false⟩, ⟨3, Ld 37 36, [], false⟩, ⟨4, Fa 38 1 3, [], false⟩, ⟨5, Ld 39 38, [], false⟩, ⟨6, I 40 (.lookup (.scal .int) .nilptr false) [T 37, T 39], [], false⟩, ⟨7, Mv 5 40, [], false⟩]])
 (.seq (.seq (.region [Mv 41 5, I 42 (.eqv false .ptr) [T 41, .lit .nilptr]])
 (.cond (T 42)
 (.seq (.region [Kc 43 [F 36, N 7], J (.store 2) [T 4, T 43]])
 (.ret))
 (.skip)))
 (.seq (.seq (.region [Fa 44 0 3, Ld 45 44])
 (.block 1 (.seq (.region [Bi 47 .eql (T 45) (N 1), Mv 46 47])
 (.cond (T 46)
 (.seq (.region [Mv 48 0, Mv 49 5, I 50 (.loadn 14) [T 3], Kc 51 [F 38, T 48, T 49, T 50], J (.store 2) [T 4, T 51]])
 (.ret))
 (.seq (.seq (.region [Bi 53 .eql (T 45) (N 8), Mv 52 53])
 (.cond (T 52)
 (.skip)
 (.region [Bi 54 .eql (T 45) (N 9), Mv 52 54])))
 (.cond (T 52)
 (.seq (.region [Mv 55 0, Mv 56 5, I 57 (.loadn 14) [T 3], Kc 58 [F 39, T 55, T 56, T 57], J (.store 2) [T 4, T 58]])
 (.ret))
 (.seq (.region [Bi 60 .eql (T 45) (N 10), Mv 59 60])
 (.cond (T 59)
 (.seq (.region [Mv 61 0, Mv 62 5, Kc 63 [F 40, T 61, T 62], J (.store 2) [T 4, T 63]])
 (.ret))
 (.seq (.region [Bi 65 .eql (T 45) (N 11), Mv 64 65])
 (.cond (T 64)
 (.seq (.region [Mv 66 0, Mv 67 5, Kc 68 [F 41, T 66, T 67]])
 (.seq (.region [I 69 (.build (.agg [Zi, Zi]) []) [], J (.store 2) [T 4, T 69]])
 (.ret)))
 (.seq (.region [Bi 71 .eql (T 45) (N 20), Mv 70 71])
 (.cond (T 70)
 (.seq (.region [Mv 72 0, Mv 73 5, I 74 (.loadn 14) [T 3], Kc 75 [F 42, T 72, T 73, T 74], J (.store 2) [T 4, T 75]])
 (.ret))
 (.skip)))))))))))))
 (.seq (.region [Mv 76 0, Mv 77 5, I 78 (.loadn 14) [T 3], Kc 79 [F 43, T 76, T 77, T 78], Kc 80 [F 36, T 79], J (.store 2) [T 4, T 80]])
 (.ret))))))))⟩
abbrev n_kern_Kernel_Resident : Nat := 9
def c_kern_Kernel_Resident_L0 : ACode :=
 .seq (.region [Bi 16 .lss (T 15) (T 14)])
 (.seq (.cond (T 16)
 (.skip)
 (.exit 0))
 (.seq (.block 1 (.seq (.region [Mv 17 15, Mv 4 17])
 (.seq (.region [Mv 19 0, Nc 20 19, Fa 21 1 20, Ld 22 21, Mv 23 4, Kc 24 [F 45, T 22, T 23], Mv 18 24, Xt 25 0 18, Xt 26 1 18, I 5 (.alloc 80 5 (.vals [Zi, Zi, Zi, Zi, Zi])) [], J (.store 5) [T 5, T 25], Mv 6 26])
 (.seq (.region [Fa 27 0 5, Ld 28 27, Bi 29 .eql (T 28) (N 2), Mv 30 29, IG 31 (.fieldAddr 0) [T 5] 30 false, IG 32 .load1 [T 31] 30 false, IG 33 (.bin .eql) [T 32, N 3] 30 false, I 34 .pick [T 30, Tt, T 33]])
 (.cond (T 34)
 (.region [Mv 35 3, Mv 36 4, I 37 (.bslice 3 1 1 (.vals [Zi]) [0]) [T 36], I 38 (.append 3 1 8 (.vals [Zi])) [T 35, T 37], Mv 3 38])
 (.skip))))))
 (.region [Bi 39 .add (T 15) (N 1), Mv 15 39])))
def c_kern_Kernel_Resident : AFn := ⟨41, [.tmp 2], .seq (.region [I 2 .mv [.lit .nilsl]])
 (.seq (.seq (.region [Mv 7 0, Kc 8 [F 35, T 7], I 9 (.un .not) [T 8]])
 (.cond (T 9)
 (.seq (.region [I 2 .mv [.lit .nilsl]])
 (.ret))
 (.skip)))
 (.seq (.region [I 3 .mv [.lit .nilsl]])
 (.seq (.seq (.region [Mv 10 0, Nc 11 10, Fa 12 0 11, Ld 13 12, Kc 14 [F 44, T 13], Mn 15 0])
 (.block 0 (.loop c_kern_Kernel_Resident_L0)))
 (.seq (.region [Mv 40 3, Mv 2 40])
 (.ret)))))⟩
abbrev n_law18_lives : Nat := 10
def c_law18_lives_L0 : ACode :=
 .seq (.seq (.region [Mv 23 3, Bi 24 .lss (T 23) (N 4)])
 (.cond (T 24)
 (.skip)
 (.exit 0)))
 (.seq (.block 1 (.seq (.region [Mv 27 1, Mv 28 3, Mv 29 3, Bi 30 .add (N 10) (T 29), I 31 (.build (.agg [Zi, Zi, Zi, Zi, Zi, (.bool false), Zi, Zi, (.bool false), Zi, Zi, Zi, Zi, Zi]) [(0, 1), (1, 1), (2, 1), (10, 1), (11, 1)]) [N 9, N 1, T 28, N 1, T 30], Kc 32 [F 8, T 27, T 31], I 33 (.field 0 1 false) [T 32], Bi 34 .neq (T 33) (N 0)])
 (.cond (T 34)
 (.seq (.region [I 0 .mv [Tf]])
 (.ret))
 (.skip))))
 (.region [Mv 25 3, Bi 26 .add (T 25) (N 1), Mv 3 26]))
def c_law18_lives_L1 : ACode :=
 .seq (.seq (.region [Mv 63 6, Bi 64 .lss (T 63) (N 5)])
 (.cond (T 64)
 (.skip)
 (.exit 2)))
 (.seq (.block 3 (.seq (.region [Mv 68 1, Mv 69 6, Kc 70 [F 19, T 68, N 1, T 69, N 1], Mv 67 70, Xt 71 0 67, Xt 72 1 67, Mv 7 71, Mv 8 72])
 (.seq (.region [Mv 73 7, Mv 74 6, Bi 75 .add (N 10) (T 74), Bi 76 .neq (T 73) (T 75), Mv 77 76, Mw 78 8 77 false, IG 79 (.bin .neq) [T 78, N 0] 77 false, I 80 .pick [T 77, Tt, T 79]])
 (.cond (T 80)
 (.seq (.region [I 0 .mv [Tf]])
 (.ret))
 (.skip)))))
 (.region [Mv 65 6, Bi 66 .add (T 65) (N 1), Mv 6 66]))
def c_law18_lives : AFn := ⟨81, [.tmp 0], .seq (.region [I 0 .mv [Tf]])
 (.seq (.region [I 10 (.build (.agg [Zi, Zi, Zi, Zi]) [(0, 1), (2, 1)]) [N 7, N 9], Kc 11 [F 7, T 10, .lit .nilsl], Mv 9 11, Xt 12 0 9, Xt 13 1 9, Mv 1 12, Mv 2 13])
 (.seq (.seq (.region [Mv 14 2, Bi 15 .neq (T 14) (N 0), Mv 16 15, Mw 17 1 16 false, IG 18 (.build (.agg [Zi, Zi, Zi, Zi, Zi, (.bool false), Zi, Zi, (.bool false), Zi, Zi, Zi, Zi, Zi]) [(0, 1), (1, 1), (2, 1), (3, 1), (4, 1)]) [N 1, N 1, N (-1), N 9, N 3] 16 false, IG 19 .callv [F 8, T 17, T 18] 16 false, IG 20 (.field 0 1 false) [T 19] 16 false, IG 21 (.bin .neq) [T 20, N 0] 16 false, I 22 .pick [T 16, Tt, T 21]])
 (.cond (T 22)
 (.seq (.region [I 0 .mv [Tf]])
 (.ret))
 (.skip)))
 (.seq (.seq (.region [Mn 3 0])
 (.block 0 (.loop c_law18_lives_L0)))
 (.seq (.region [I 35 (.build (.agg [Zi, Zi, Zi, Zi, Zi, (.bool false), Zi, Zi, (.bool false), Zi, Zi, Zi, Zi, Zi]) [(0, 1), (1, 1), (2, 1), (10, 1), (11, 1)]) [N 9, N 1, N 4, N 1, N 14], I 4 (.alloc 33 14 (.vals [Zi, Zi, Zi, Zi, Zi, (.bool false), Zi, Zi, (.bool false), Zi, Zi, Zi, Zi, Zi])) [], J (.store 14) [T 4, T 35]])
 (.seq (.region [Mv 36 1, Kc 37 [F 9, T 36], Mv 5 37])
 (.seq (.seq (.region (Mv 38 1 ::
 I 39 (.loadn 14) [T 4] ::
 Kc 40 [F 8, T 38, T 39] ::
 I 41 (.field 0 1 false) [T 40] ::
 Bi 42 .neq (T 41) (N 5) ::
 Mv 43 42 ::
 Mw 44 5 43 false ::
 IG 45 .lens [T 44] 43 false ::
 IG 46 (.bin .neq) [T 45, N 4] 43 false ::
 I 47 .pick [T 43, Tt, T 46] ::
 Mv 48 47 ::
 Mw 49 1 48 false ::
 Mw 50 5 48 false ::
 IG 51 (.indexs 1) [T 50, N 0] 48 false ::
 IG 52 .load1 [T 51] 48 false ::
 IG 53 .callv [F 46, T 49, T 52] 48 false ::
 IG 54 (.bin .neq) [T 53, N 0] 48 false ::
 I 55 .pick [T 48, Tt, T 54] ::
 Mv 56 55 ::
 Mw 57 1 56 false ::
 IG 58 (.loadn 14) [T 4] 56 false ::
 IG 59 .callv [F 8, T 57, T 58] 56 false ::
 IG 60 (.field 0 1 false) [T 59] 56 false ::
 IG 61 (.bin .neq) [T 60, N 0] 56 false ::
 I 62 .pick [T 56, Tt, T 61] ::
 []))
 (.cond (T 62)
 (.seq (.region [I 0 .mv [Tf]])
 (.ret))
 (.skip)))
 (.seq (.seq (.region [Mn 6 0])
 (.block 2 (.loop c_law18_lives_L1)))
 (.seq (.region [I 0 .mv [Tt]])
 (.ret)))))))))⟩
abbrev n_loan_New : Nat := 11
def c_loan_New : AFn := ⟨20, [.tmp 4], .seq (.region [I 4 .mv [.lit .nilptr]])
 (.seq (.seq (.region [Mv 5 0, I 6 (.eqv false .ptr) [T 5, .lit .nilptr], Mv 7 6, Mw 8 1 7 false, IG 9 (.bin .lss) [T 8, N 0] 7 false, I 10 .pick [T 7, Tt, T 9], Mv 11 10, Mw 12 1 11 false, IG 13 (.bin .gtr) [T 12, N 64] 11 false, I 14 .pick [T 11, Tt, T 13]])
 (.cond (T 14)
 (.seq (.region [I 4 .mv [.lit .nilptr]])
 (.ret))
 (.skip)))
 (.seq (.region [Mv 15 0, Mv 16 1, I 17 (.mkmap) [], I 18 (.build (.agg [.nilptr, Zi, .nilmap]) [(0, 1), (1, 1), (2, 1)]) [T 15, T 16, T 17], I 19 (.box 85 3) [T 18], Mv 4 19])
 (.ret)))⟩
abbrev n_loan_Desk_Loan : Nat := 12
def c_loan_Desk_Loan_L0 : ACode :=
 .seq (.region [Bi 48 .lss (T 47) (N 64)])
 (.seq (.cond (T 48)
 (.skip)
 (.exit 0))
 (.seq (.block 1 (.seq (.region [Mv 49 47, Mv 11 49])
 (.seq (.region [Mv 51 0, Nc 52 51, Fa 53 2 52, Ld 54 53, Mv 55 11, Bi 56 .add (T 55) (N 1), I 57 (.lookup (.scal .int) Zi true) [T 54, T 56], Mv 50 57, Xt 58 0 50, Xt 59 1 50, Mv 12 58, Mv 13 59])
 (.seq (.region [Mv 60 13, I 61 (.un .not) [T 60]])
 (.cond (T 61)
 (.seq (.region [Mv 62 0, Nc 63 62, Fa 64 2 63, Ld 65 64, Mv 66 11, Bi 67 .add (T 66) (N 1), Mv 68 9, J (.mapput (.scal .int)) [T 65, T 67, T 68]])
 (.seq (.region [Mv 69 11, Bi 70 .add (T 69) (N 1), Mv 6 70, Mn 7 0])
 (.ret)))
 (.skip))))))
 (.region [Bi 71 .add (T 47) (N 1), Mv 47 71])))
def c_loan_Desk_Loan : AFn := ⟨72, [.tmp 6, .tmp 7], .seq (.region [Mn 6 0, Mn 7 0])
 (.seq (.seq (.region [Mv 14 0, Kc 15 [F 47, T 14], I 16 (.un .not) [T 15]])
 (.cond (T 16)
 (.seq (.region [Mn 6 0, Mn 7 1])
 (.ret))
 (.skip)))
 (.seq (.seq (.draw [[⟨0, Mv 17 0, [], false⟩, ⟨1, Nc 18 17, [], false⟩, ⟨2, Fa 19 2 18, [], false⟩, ⟨3, Ld 20 19, [], false⟩, ⟨4, I 21 (.lenm) [T 20], [], false⟩, ⟨5, Mv 22 0, [], false⟩, ⟨6, Nc 23 22, [], false⟩, ⟨7, Fa 24 1 23, [], false⟩, ⟨8, Ld 25 24, [], false⟩, ⟨9, Bi 26 .geq (T 21) (T 25), [], false⟩]])
 (.cond (T 26)
 (.seq (.seq (.region [Mv 27 0, Mv 28 1, Mv 29 2, Kc 30 [F 48, T 27, T 28, T 29], Mv 8 30])
 (.seq (.region [Mv 31 8, Bi 32 .neq (T 31) (N 0)])
 (.cond (T 32)
 (.seq (.region [Mv 33 8, Mn 6 0, Mv 7 33])
 (.ret))
 (.skip))))
 (.seq (.region [Mn 6 0, Mn 7 5])
 (.ret)))
 (.skip)))
 (.seq (.region [Mv 35 0, Nc 36 35, Fa 37 0 36, Ld 38 37, Mv 39 1, Mv 40 2, Kc 41 [F 49, T 38, T 39, T 40], Mv 34 41, Xt 42 0 34, Xt 43 1 34, Mv 9 42, Mv 10 43])
 (.seq (.seq (.region [Mv 44 10, Bi 45 .neq (T 44) (N 0)])
 (.cond (T 45)
 (.seq (.region [Mv 46 10, Mn 6 0, Mv 7 46])
 (.ret))
 (.skip)))
 (.seq (.seq (.region [Mn 47 0])
 (.block 0 (.loop c_loan_Desk_Loan_L0)))
 (.seq (.region [Mn 6 0, Mn 7 5])
 (.ret)))))))⟩
abbrev n_loan_Desk_Return : Nat := 13
def c_loan_Desk_Return : AFn := ⟨32, [.tmp 4], .seq (.region [Mn 4 0])
 (.seq (.seq (.region [Mv 7 0, Kc 8 [F 47, T 7], I 9 (.un .not) [T 8]])
 (.cond (T 9)
 (.seq (.region [Mn 4 1])
 (.ret))
 (.skip)))
 (.seq (.region [Mv 11 0, Nc 12 11, Fa 13 2 12, Ld 14 13, Mv 15 1, I 16 (.lookup (.scal .int) Zi true) [T 14, T 15], Mv 10 16, Xt 17 0 10, Xt 18 1 10, Mv 5 17, Mv 6 18])
 (.seq (.seq (.region [Mv 19 6, I 20 (.un .not) [T 19]])
 (.cond (T 20)
 (.seq (.region [Mn 4 7])
 (.ret))
 (.skip)))
 (.seq (.region [Mv 21 0, Nc 22 21, Fa 23 2 22, Ld 24 23, Mv 25 1, J (.delete (.scal .int)) [T 24, T 25]])
 (.seq (.region [Mv 26 0, Nc 27 26, Fa 28 0 27, Ld 29 28, Mv 30 5, Kc 31 [F 50, T 29, T 30], Mv 4 31])
 (.ret))))))⟩
abbrev n_loan_Desk_Handles : Nat := 14
def c_loan_Desk_Handles : AFn := ⟨12, [.tmp 2], .seq (.region [I 2 .mv [.lit .nilsl]])
 (.seq (.seq (.region [Mv 3 0, Kc 4 [F 47, T 3], I 5 (.un .not) [T 4]])
 (.cond (T 5)
 (.seq (.region [I 2 .mv [.lit .nilsl]])
 (.ret))
 (.skip)))
 (.seq (.region [Mv 6 0, Nc 7 6, Fa 8 2 7, Ld 9 8, Kc 10 [F 52, T 9], Kc 11 [F 51, T 10], Mv 2 11])
 (.ret)))⟩
abbrev n_law19_lives : Nat := 15
def c_law19_lives : AFn := ⟨71, [.tmp 0], .seq (.region [I 0 .mv [Tf]])
 (.seq (.region [I 9 (.build (.agg [Zi, Zi, Zi, Zi]) [(0, 1), (2, 1)]) [N 20, N 4], Kc 10 [F 7, T 9, .lit .nilsl], Mv 8 10, Xt 11 0 8, Xt 12 1 8, Mv 1 11, Mv 2 12])
 (.seq (.region [Mv 13 1, Kc 14 [F 11, T 13, N 4], Mv 3 14])
 (.seq (.seq (.region [Mv 15 2, Bi 16 .neq (T 15) (N 0), Mv 17 16, Mw 18 3 17 false, IG 19 (.eqv false .ptr) [T 18, .lit .nilptr] 17 false, I 20 .pick [T 17, Tt, T 19], Mv 21 20, Mw 22 1 21 false, IG 23 (.build (.agg [Zi, Zi, Zi, Zi, Zi, (.bool false), Zi, Zi, (.bool false), Zi, Zi, Zi, Zi, Zi]) [(0, 1), (1, 1), (2, 1), (3, 1), (4, 1)]) [N 1, N 1, N (-1), N 1, N 3] 21 false, IG 24 .callv [F 8, T 22, T 23] 21 false, IG 25 (.field 0 1 false) [T 24] 21 false, IG 26 (.bin .neq) [T 25, N 0] 21 false, I 27 .pick [T 21, Tt, T 26], Mv 28 27, Mw 29 1 28 false, IG 30 (.build (.agg [Zi, Zi, Zi, Zi, Zi, (.bool false), Zi, Zi, (.bool false), Zi, Zi, Zi, Zi, Zi]) [(0, 1), (1, 1), (11, 1)]) [N 9, N 1, N 7] 28 false, IG 31 .callv [F 8, T 29, T 30] 28 false, IG 32 (.field 0 1 false) [T 31] 28 false, IG 33 (.bin .neq) [T 32, N 0] 28 false, I 34 .pick [T 28, Tt, T 33]])
 (.cond (T 34)
 (.seq (.region [I 0 .mv [Tf]])
 (.ret))
 (.skip)))
 (.seq (.region [Mv 36 3, Kc 37 [F 12, T 36, N 1, N 0], Mv 35 37, Xt 38 0 35, Xt 39 1 35, Mv 4 38, Mv 5 39])
 (.seq (.seq (.region [Mv 40 4, Bi 41 .neq (T 40) (N 1), Mv 42 41, Mw 43 5 42 false, IG 44 (.bin .neq) [T 43, N 0] 42 false, I 45 .pick [T 42, Tt, T 44], Mv 46 45, Mw 47 1 46 false, IG 48 (.build (.agg [Zi, Zi, Zi, Zi, Zi, (.bool false), Zi, Zi, (.bool false), Zi, Zi, Zi, Zi, Zi]) [(0, 1), (1, 1), (11, 1)]) [N 9, N 1, N 8] 46 false, IG 49 .callv [F 8, T 47, T 48] 46 false, IG 50 (.field 0 1 false) [T 49] 46 false, IG 51 (.bin .neq) [T 50, N 0] 46 false, I 52 .pick [T 46, Tt, T 51]])
 (.cond (T 52)
 (.seq (.region [I 0 .mv [Tf]])
 (.ret))
 (.skip)))
 (.seq (.region [Mv 54 3, Kc 55 [F 18, T 54, N 1, N 0], Mv 53 55, Xt 56 0 53, Xt 57 1 53, Mv 6 56, Mv 7 57])
 (.seq (.region [Mv 58 6, Bi 59 .eql (T 58) (N 7), Mv 60 59, Mw 61 7 60 true, IG 62 (.bin .eql) [T 61, N 0] 60 true, I 63 .pick [T 60, T 62, Tf], Mv 64 63, Mw 65 1 64 true, IG 66 (.build (.agg [Zi, Zi, Zi, Zi, Zi, (.bool false), Zi, Zi, (.bool false), Zi, Zi, Zi, Zi, Zi]) [(0, 1), (1, 1)]) [N 8, N 1] 64 true, IG 67 .callv [F 8, T 65, T 66] 64 true, IG 68 (.field 1 1 false) [T 67] 64 true, IG 69 (.bin .eql) [T 68, N 8] 64 true, I 70 .pick [T 64, T 69, Tf], Mv 0 70])
 (.ret))))))))⟩
abbrev n_kern_Kernel_Free : Nat := 16
def c_kern_Kernel_Free : AFn := ⟨11, [.tmp 2], .seq (.region [Mn 2 0])
 (.seq (.seq (.region [Mv 3 0, Kc 4 [F 35, T 3], I 5 (.un .not) [T 4]])
 (.cond (T 5)
 (.seq (.region [Mn 2 0])
 (.ret))
 (.skip)))
 (.seq (.region [Mv 6 0, Nc 7 6, Fa 8 1 7, Ld 9 8, Kc 10 [F 53, T 9], Mv 2 10])
 (.ret)))⟩
abbrev n_loan_Desk_Frame : Nat := 17
def c_loan_Desk_Frame : AFn := ⟨22, [.tmp 4], .seq (.region [Mn 4 0])
 (.seq (.seq (.region [Mv 7 0, Kc 8 [F 47, T 7], I 9 (.un .not) [T 8]])
 (.cond (T 9)
 (.seq (.region [Mn 4 (-1)])
 (.ret))
 (.skip)))
 (.seq (.region [Mv 11 0, Nc 12 11, Fa 13 2 12, Ld 14 13, Mv 15 1, I 16 (.lookup (.scal .int) Zi true) [T 14, T 15], Mv 10 16, Xt 17 0 10, Xt 18 1 10, Mv 5 17, Mv 6 18])
 (.seq (.seq (.region [Mv 19 6, I 20 (.un .not) [T 19]])
 (.cond (T 20)
 (.seq (.region [Mn 4 (-1)])
 (.ret))
 (.skip)))
 (.seq (.region [Mv 21 5, Mv 4 21])
 (.ret)))))⟩
abbrev n_loan_Desk_Peek : Nat := 18
def c_loan_Desk_Peek : AFn := ⟨38, [.tmp 6, .tmp 7], .seq (.region [Mn 6 0, Mn 7 0])
 (.seq (.seq (.region [Mv 11 0, Kc 12 [F 47, T 11], I 13 (.un .not) [T 12]])
 (.cond (T 13)
 (.seq (.region [Mn 6 0, Mn 7 1])
 (.ret))
 (.skip)))
 (.seq (.region [Mv 15 0, Nc 16 15, Fa 17 2 16, Ld 18 17, Mv 19 1, I 20 (.lookup (.scal .int) Zi true) [T 18, T 19], Mv 14 20, Xt 21 0 14, Xt 22 1 14, Mv 8 21, Mv 9 22])
 (.seq (.seq (.region [Mv 23 9, I 24 (.un .not) [T 23]])
 (.cond (T 24)
 (.seq (.region [Mn 6 0, Mn 7 7])
 (.ret))
 (.skip)))
 (.seq (.region [Mv 26 0, Nc 27 26, Fa 28 0 27, Ld 29 28, Mv 30 8, Mv 31 2, Kc 32 [F 54, T 29, T 30, T 31], Mv 25 32, Xt 33 0 25, Xt 34 1 25, Mv 10 33, Mv 9 34])
 (.seq (.seq (.region [Mv 35 9, I 36 (.un .not) [T 35]])
 (.cond (T 36)
 (.seq (.region [Mn 6 0, Mn 7 2])
 (.ret))
 (.skip)))
 (.seq (.region [Mv 37 10, Mv 6 37, Mn 7 0])
 (.ret)))))))⟩
abbrev n_kern_Kernel_Byte : Nat := 19
def c_kern_Kernel_Byte : AFn := ⟨106, [.tmp 8, .tmp 9], .seq (.region [Mn 8 0, Mn 9 0])
 (.seq (.block 0 (.seq (.region [Mv 17 0, Kc 18 [F 35, T 17], I 19 (.un .not) [T 18], Mv 16 19])
 (.cond (T 16)
 (.seq (.region [Mn 8 0, Mn 9 1])
 (.ret))
 (.seq (.region [Mv 21 0, Nc 22 21, Fa 23 9 22, Ld 24 23, Mv 25 1, I 26 (.lookup (.scal .int) .nilptr false) [T 24, T 25], I 27 (.eqv false .ptr) [T 26, .lit .nilptr], Mv 20 27])
 (.cond (T 20)
 (.seq (.region [Mn 8 0, Mn 9 7])
 (.ret))
 (.seq (.region [Mv 29 3, Bi 30 .lss (T 29) (N 0), Mv 31 30, Mw 32 3 31 false, IG 33 (.bin .geq) [T 32, N 4096] 31 false, I 34 .pick [T 31, Tt, T 33], Mv 28 34])
 (.cond (T 28)
 (.seq (.region [Mn 8 0, Mn 9 2])
 (.ret))
 (.skip))))))))
 (.seq (.region [Mv 35 0, Nc 36 35, Fa 37 9 36, Ld 38 37, Mv 39 1, I 40 (.lookup (.scal .int) .nilptr false) [T 38, T 39], Mv 10 40])
 (.seq (.region [Mv 42 10, Nc 43 42, Fa 44 1 43, Ld 45 44, Mv 46 2, Kc 47 [F 55, T 45, T 46], Mv 41 47, Xt 48 0 41, Xt 49 1 41, I 11 (.alloc 94 10 (.vals [Zi, Zi, Zi, Zi, (.bool false), Zi, Zi, Zi, Zi, (.bool false)])) [], J (.store 10) [T 11, T 48], Mv 12 49])
 (.seq (.seq (.region [Mv 50 12, I 51 (.un .not) [T 50]])
 (.cond (T 51)
 (.seq (.region [Mn 8 0, Mn 9 4])
 (.ret))
 (.skip)))
 (.seq (.seq (.draw [[⟨0, Mv 53 0, [], false⟩, ⟨1, Nc 54 53, [], false⟩, ⟨2, Fa 55 5 54, [], false⟩, ⟨3, Ld 56 55, [], false⟩, ⟨4, Mv 57 0, [], false⟩, ⟨5, Mv 58 10, [], false⟩, ⟨6, Mv 59 2, [], false⟩, ⟨7, Kc 60 [F 57, T 57, T 58, T 59], [(3, Ld 56 55)], false⟩, ⟨8, Kc 61 [F 56, T 56, T 60], [], false⟩, ⟨9, Mv 52 61, [], false⟩, ⟨10, Xt 62 0 52, [], false⟩, ⟨11, Xt 63 1 52, [], false⟩, ⟨12, I 13 (.alloc 103 3 (.vals [Zi, Zi, Zi])) [], [(3, Ld 56 55)], false⟩, ⟨13, J (.store 3) [T 13, T 62], [], false⟩, ⟨14, Mv 14 63, [], false⟩]])
 (.seq (.region [Mv 64 14, Mv 65 64, IG 66 (.fieldAddr 4) [T 11] 65 true, IG 67 .load1 [T 66] 65 true, IG 68 (.un .not) [T 67] 65 true, I 69 .pick [T 65, T 68, Tf]])
 (.cond (T 69)
 (.seq (.region [Mv 70 0, Fa 71 1 13, Ld 72 71, Fa 73 2 13, Ld 74 73, Kc 75 [F 58, T 70, T 72, T 74], Mv 76 3, I 77 (.indexs 1) [T 75, T 76], Ld 78 77, I 79 (.conv .i64) [T 78], Mv 8 79, Mn 9 0])
 (.ret))
 (.skip))))
 (.seq (.region [Fa 80 3 11, Ld 81 80, Mv 82 2, Bi 83 .add (T 81) (T 82), Fa 84 0 11, Ld 85 84, Bi 86 .sub (T 83) (T 85), Mv 15 86])
 (.seq (.block 1 (.seq (.region [Fa 88 2 11, Ld 89 88, Bi 90 .eql (T 89) (N 0), Mv 87 90])
 (.cond (T 87)
 (.seq (.region [Mn 8 0, Mn 9 0])
 (.ret))
 (.seq (.region [Mv 92 0, Fa 93 2 11, Ld 94 93, Mv 95 15, Kc 96 [F 59, T 92, T 94, T 95], Mv 91 96])
 (.cond (T 91)
 (.seq (.region [Mn 8 0, Mn 9 4])
 (.ret))
 (.skip))))))
 (.seq (.region [Mv 97 0, Fa 98 2 11, Ld 99 98, Mv 100 15, Kc 101 [F 60, T 97, T 99, T 100], Mv 102 3, I 103 (.indexs 1) [T 101, T 102], Ld 104 103, I 105 (.conv .i64) [T 104], Mv 8 105, Mn 9 0])
 (.ret)))))))))⟩
abbrev n_law20_lives : Nat := 22
def c_law20_lives_L0 : ACode :=
 .seq (.region [Bi 44 .lss (T 43) (T 42)])
 (.seq (.cond (T 44)
 (.skip)
 (.exit 0))
 (.seq (.block 1 (.seq (.region [I 45 (.indexs 1) [T 41, T 43], Ld 46 45, Mv 5 46])
 (.region [Mv 47 1, Mv 48 5, Kc 49 [F 65, T 47, T 48]])))
 (.region [Bi 50 .add (T 43) (N 1), Mv 43 50])))
def c_law20_lives : AFn := ⟨60, [.tmp 0], .seq (.region [I 0 .mv [Tf]])
 (.seq (.region [I 7 (.build (.agg [Zi, Zi, Zi, Zi]) [(0, 1), (2, 1)]) [N 20, N 4], Kc 8 [F 7, T 7, .lit .nilsl], Mv 6 8, Xt 9 0 6, Xt 10 1 6, Mv 1 9, Mv 2 10])
 (.seq (.region [Mv 11 1, Kc 12 [F 20, T 11], Mv 3 12])
 (.seq (.seq (.region (Mv 13 2 ::
 Bi 14 .neq (T 13) (N 0) ::
 Mv 15 14 ::
 Mw 16 3 15 false ::
 IG 17 (.eqv false .ptr) [T 16, .lit .nilptr] 15 false ::
 I 18 .pick [T 15, Tt, T 17] ::
 Mv 19 18 ::
 Mw 20 1 19 false ::
 IG 21 (.build (.agg [Zi, Zi, Zi, Zi, Zi, (.bool false), Zi, Zi, (.bool false), Zi, Zi, Zi, Zi, Zi]) [(0, 1), (1, 1), (2, 1), (3, 1), (4, 1)]) [N 1, N 1, N (-1), N 2, N 3] 19 false ::
 IG 22 .callv [F 8, T 20, T 21] 19 false ::
 IG 23 (.field 0 1 false) [T 22] 19 false ::
 IG 24 (.bin .neq) [T 23, N 0] 19 false ::
 I 25 .pick [T 19, Tt, T 24] ::
 Mv 26 25 ::
 Mw 27 1 26 false ::
 IG 28 (.build (.agg [Zi, Zi, Zi, Zi, Zi, (.bool false), Zi, Zi, (.bool false), Zi, Zi, Zi, Zi, Zi]) [(0, 1), (1, 1), (11, 1)]) [N 9, N 1, N 7] 26 false ::
 IG 29 .callv [F 8, T 27, T 28] 26 false ::
 IG 30 (.field 0 1 false) [T 29] 26 false ::
 IG 31 (.bin .neq) [T 30, N 0] 26 false ::
 I 32 .pick [T 26, Tt, T 31] ::
 Mv 33 32 ::
 Mw 34 1 33 false ::
 IG 35 (.build (.agg [Zi, Zi, Zi, Zi, Zi, (.bool false), Zi, Zi, (.bool false), Zi, Zi, Zi, Zi, Zi]) [(0, 1), (1, 1), (2, 1), (11, 1)]) [N 9, N 1, N 1, N 7] 33 false ::
 IG 36 .callv [F 8, T 34, T 35] 33 false ::
 IG 37 (.field 0 1 false) [T 36] 33 false ::
 IG 38 (.bin .neq) [T 37, N 0] 33 false ::
 I 39 .pick [T 33, Tt, T 38] ::
 []))
 (.cond (T 39)
 (.seq (.region [I 0 .mv [Tf]])
 (.ret))
 (.skip)))
 (.seq (.seq (.region [Mv 40 1, Kc 41 [F 9, T 40], I 42 .lens [T 41], Mn 43 0])
 (.block 0 (.loop c_law20_lives_L0)))
 (.seq (.region [Mv 51 3, Kc 52 [F 21, T 51, N 4], Bi 53 .eql (T 52) (N 2), Mv 54 53, Mw 55 1 54 true, IG 56 .callv [F 9, T 55] 54 true, IG 57 .lens [T 56] 54 true, IG 58 (.bin .eql) [T 57, N 0] 54 true, I 59 .pick [T 54, T 58, Tf], Mv 0 59])
 (.ret))))))⟩
abbrev n_kern_may : Nat := 23
def c_kern_may : AFn := ⟨55, [.tmp 4], .seq (.region [I 2 (.box 28 4) [T 0], I 4 .mv [Tf]])
 (.seq (.region [I 5 .mv [F 66]])
 (.seq (.seq (.region [Fa 6 0 2, Ld 7 6, Bi 8 .lss (T 7) (N 1), Mv 9 8, IG 10 (.fieldAddr 0) [T 2] 9 false, IG 11 .load1 [T 10] 9 false, IG 12 (.bin .gtr) [T 11, N 256] 9 false, I 13 .pick [T 9, Tt, T 12], Mv 14 13, IG 15 (.fieldAddr 1) [T 2] 14 false, IG 16 .load1 [T 15] 14 false, IG 17 (.bin .lss) [T 16, N 0] 14 false, I 18 .pick [T 14, Tt, T 17], Mv 19 18, IG 20 (.fieldAddr 1) [T 2] 19 false, IG 21 .load1 [T 20] 19 false, IG 22 (.fieldAddr 0) [T 2] 19 false, IG 23 .load1 [T 22] 19 false, IG 24 (.bin .gtr) [T 21, T 23] 19 false, I 25 .pick [T 19, Tt, T 24]])
 (.cond (T 25)
 (.seq (.region [I 4 .mv [Tf]])
 (.ret))
 (.skip)))
 (.seq (.region (Fa 26 2 2 ::
 Ld 27 26 ::
 Bi 28 .geq (T 27) (N 0) ::
 Mv 29 28 ::
 IG 30 (.fieldAddr 2) [T 2] 29 true ::
 IG 31 .load1 [T 30] 29 true ::
 IG 32 (.bin .leq) [T 31, N 256] 29 true ::
 I 33 .pick [T 29, T 32, Tf] ::
 Mv 34 33 ::
 IG 35 (.fieldAddr 3) [T 2] 34 true ::
 IG 36 .load1 [T 35] 34 true ::
 IG 37 (.bin .geq) [T 36, N 0] 34 true ::
 I 38 .pick [T 34, T 37, Tf] ::
 Mv 39 38 ::
 IG 40 (.fieldAddr 3) [T 2] 39 true ::
 IG 41 .load1 [T 40] 39 true ::
 IG 42 (.bin .leq) [T 41, N 1024] 39 true ::
 I 43 .pick [T 39, T 42, Tf] ::
 Mv 44 43 ::
 Mw 45 1 44 true ::
 IG 46 .lens [T 45] 44 true ::
 IG 47 (.bin .leq) [T 46, N 16] 44 true ::
 I 48 .pick [T 44, T 47, Tf] ::
 Mv 49 48 ::
 Mw 50 1 49 true ::
 Mw 51 5 49 true ::
 IG 52 .callv [F 67, T 50, T 51] 49 true ::
 IG 53 (.un .not) [T 52] 49 true ::
 I 54 .pick [T 49, T 53, Tf] ::
 Mv 4 54 ::
 []))
 (.ret))))⟩
abbrev n_phys_New : Nat := 24
def c_phys_New : AFn := ⟨13, [.tmp 2], .seq (.region [I 2 .mv [.lit .nilptr]])
 (.seq (.seq (.region [Mv 3 0, Bi 4 .lss (T 3) (N 1), Mv 5 4, Mw 6 0 5 false, IG 7 (.bin .gtr) [T 6, N 256] 5 false, I 8 .pick [T 5, Tt, T 7]])
 (.cond (T 8)
 (.seq (.region [I 2 .mv [.lit .nilptr]])
 (.ret))
 (.skip)))
 (.seq (.region [Mv 9 0, I 10 (.mkslice 302 4096 4096 (.bytes 4096 0)) [T 9, T 9], I 11 (.build (.agg [.nilsl]) [(0, 1)]) [T 10], I 12 (.box 120 1) [T 11], Mv 2 12])
 (.ret)))⟩
abbrev n_frames_New : Nat := 25
def c_frames_New : AFn := ⟨25, [.tmp 4], .seq (.region [I 4 .mv [.lit .nilptr]])
 (.seq (.seq (.region [Mv 5 0, Bi 6 .lss (T 5) (N 1), Mv 7 6, Mw 8 0 7 false, IG 9 (.bin .gtr) [T 8, N 256] 7 false, I 10 .pick [T 7, Tt, T 9], Mv 11 10, Mw 12 1 11 false, IG 13 (.bin .lss) [T 12, N 0] 11 false, I 14 .pick [T 11, Tt, T 13], Mv 15 14, Mw 16 1 15 false, Mw 17 0 15 false, IG 18 (.bin .gtr) [T 16, T 17] 15 false, I 19 .pick [T 15, Tt, T 18]])
 (.cond (T 19)
 (.seq (.region [I 4 .mv [.lit .nilptr]])
 (.ret))
 (.skip)))
 (.seq (.region [Mv 20 0, I 21 (.mkslice 80 5 40 (.vals [Zi, Zi, Zi, Zi, Zi])) [T 20, T 20], Mv 22 1, I 23 (.build (.agg [.nilsl, Zi]) [(0, 1), (1, 1)]) [T 21, T 22], I 24 (.box 123 2) [T 23], Mv 4 24])
 (.ret)))⟩
abbrev n_swap_New : Nat := 26
def c_swap_New : AFn := ⟨13, [.tmp 2], .seq (.region [I 2 .mv [.lit .nilptr]])
 (.seq (.seq (.region [Mv 3 0, Bi 4 .lss (T 3) (N 0), Mv 5 4, Mw 6 0 5 false, IG 7 (.bin .gtr) [T 6, N 256] 5 false, I 8 .pick [T 5, Tt, T 7]])
 (.cond (T 8)
 (.seq (.region [I 2 .mv [.lit .nilptr]])
 (.ret))
 (.skip)))
 (.seq (.region [Mv 9 0, I 10 (.mkmap) [], I 11 (.build (.agg [Zi, (.bool false), .nilmap, Zi, Zi, Zi, Zi]) [(0, 1), (1, 1), (2, 1)]) [T 9, Tt, T 10], I 12 (.box 128 7) [T 11], Mv 2 12])
 (.ret)))⟩
abbrev n_slots_New : Nat := 27
def c_slots_New : AFn := ⟨21, [.tmp 2], .seq (.region [I 2 .mv [.lit .nilptr]])
 (.seq (.seq (.region [Mv 4 0, Bi 5 .lss (T 4) (N 0), Mv 6 5, Mw 7 0 6 false, IG 8 (.bin .gtr) [T 7, N 256] 6 false, I 9 .pick [T 6, Tt, T 8]])
 (.cond (T 9)
 (.seq (.region [I 2 .mv [.lit .nilptr]])
 (.ret))
 (.skip)))
 (.seq (.region [Mv 10 0, Bi 11 .add (T 10) (N 64), Bi 12 .sub (T 11) (N 1), Bi 13 .quo (T 12) (N 64), Mv 3 13])
 (.seq (.draw [[⟨0, Mv 14 0, [], false⟩, ⟨1, Mv 15 3, [], false⟩, ⟨3, Mv 17 3, [], false⟩, ⟨2, I 16 (.mkslice 300 1 8 (.vals [(.int .u64 0)])) [T 15, T 15], [], false⟩, ⟨4, I 18 (.mkslice 300 1 8 (.vals [(.int .u64 0)])) [T 17, T 17], [], false⟩, ⟨5, I 19 (.build (.agg [Zi, .nilsl, .nilsl]) [(0, 1), (1, 1), (2, 1)]) [T 14, T 16, T 18], [], false⟩, ⟨6, I 20 (.box 131 3) [T 19], [], false⟩, ⟨7, Mv 2 20, [], false⟩],
[⟨0, Mv 14 0, [], false⟩, ⟨1, Mv 15 3, [], false⟩, ⟨3, Mv 17 3, [], false⟩, ⟨4, I 18 (.mkslice 300 1 8 (.vals [(.int .u64 0)])) [T 17, T 17], [], false⟩, ⟨2, I 16 (.mkslice 300 1 8 (.vals [(.int .u64 0)])) [T 15, T 15], [], false⟩, ⟨5, I 19 (.build (.agg [Zi, .nilsl, .nilsl]) [(0, 1), (1, 1), (2, 1)]) [T 14, T 16, T 18], [], false⟩, ⟨6, I 20 (.box 131 3) [T 19], [], false⟩, ⟨7, Mv 2 20, [], false⟩]])
 (.ret))))⟩
abbrev n_file_New : Nat := 28
def c_file_New : AFn := ⟨4, [.tmp 0], .seq (.region [I 0 .mv [.lit .nilptr]])
 (.seq (.region [I 1 (.mkmap) [], I 2 (.build (.agg [(.bool false), .nilsl, .nilmap, Zi]) [(0, 1), (2, 1)]) [Tt, T 1], I 3 (.box 134 4) [T 2], Mv 0 3])
 (.ret))⟩
abbrev n_anon_New : Nat := 29
def c_anon_New : AFn := ⟨13, [.tmp 2], .seq (.region [I 2 .mv [.lit .nilptr]])
 (.seq (.seq (.region [Mv 3 0, Bi 4 .lss (T 3) (N 0), Mv 5 4, Mw 6 0 5 false, IG 7 (.bin .gtr) [T 6, N 4096] 5 false, I 8 .pick [T 5, Tt, T 7]])
 (.cond (T 8)
 (.seq (.region [I 2 .mv [.lit .nilptr]])
 (.ret))
 (.skip)))
 (.seq (.region [Mv 9 0, I 10 (.mkmap) [], I 11 (.build (.agg [Zi, (.bool false), .nilmap, .nilsl, Zi]) [(0, 1), (1, 1), (2, 1)]) [T 9, Tt, T 10], I 12 (.box 138 5) [T 11], Mv 2 12])
 (.ret)))⟩
abbrev n_amap_New : Nat := 30
def c_amap_New : AFn := ⟨12, [.tmp 2], .seq (.region [I 2 .mv [.lit .nilptr]])
 (.seq (.seq (.region [Mv 3 0, Bi 4 .lss (T 3) (N 0), Mv 5 4, Mw 6 0 5 false, IG 7 (.bin .gtr) [T 6, N 4096] 5 false, I 8 .pick [T 5, Tt, T 7]])
 (.cond (T 8)
 (.seq (.region [I 2 .mv [.lit .nilptr]])
 (.ret))
 (.skip)))
 (.seq (.region [Mv 9 0, I 10 (.build (.agg [Zi, (.bool false), .nilsl, Zi]) [(0, 1), (1, 1)]) [T 9, Tt], I 11 (.box 141 4) [T 10], Mv 2 11])
 (.ret)))⟩
abbrev n_object_New : Nat := 31
def c_object_New : AFn := ⟨13, [.tmp 2], .seq (.region [I 2 .mv [.lit .nilptr]])
 (.seq (.seq (.region [Mv 3 0, Bi 4 .lss (T 3) (N 0), Mv 5 4, Mw 6 0 5 false, IG 7 (.bin .gtr) [T 6, N 4096] 5 false, I 8 .pick [T 5, Tt, T 7]])
 (.cond (T 8)
 (.seq (.region [I 2 .mv [.lit .nilptr]])
 (.ret))
 (.skip)))
 (.seq (.region [Mv 9 0, I 10 (.mkmap) [], I 11 (.build (.agg [Zi, (.bool false), .nilmap]) [(0, 1), (1, 1), (2, 1)]) [T 9, Tt, T 10], I 12 (.box 144 3) [T 11], Mv 2 12])
 (.ret)))⟩
abbrev n_tlb_New : Nat := 32
def c_tlb_New : AFn := ⟨13, [.tmp 2], .seq (.region [I 2 .mv [.lit .nilptr]])
 (.seq (.seq (.region [Mv 3 0, Bi 4 .lss (T 3) (N 0), Mv 5 4, Mw 6 0 5 false, IG 7 (.bin .gtr) [T 6, N 1024] 5 false, I 8 .pick [T 5, Tt, T 7]])
 (.cond (T 8)
 (.seq (.region [I 2 .mv [.lit .nilptr]])
 (.ret))
 (.skip)))
 (.seq (.region [Mv 9 0, I 10 (.mkmap) [], I 11 (.build (.agg [Zi, .nilsl, .nilmap]) [(0, 1), (2, 1)]) [T 9, T 10], I 12 (.box 148 3) [T 11], Mv 2 12])
 (.ret)))⟩
abbrev n_kern_Kernel_birth : Nat := 34
def c_kern_Kernel_birth_L0 : ACode :=
 .seq (.seq (.region [Mv 8 0, Nc 9 8, Fa 10 9 9, Ld 11 10, Mv 12 4, I 13 (.lookup (.scal .int) .nilptr false) [T 11, T 12], I 14 (.eqv true .ptr) [T 13, .lit .nilptr]])
 (.cond (T 14)
 (.skip)
 (.exit 0)))
 (.block 1 (.region [Mv 15 4, Bi 16 .add (T 15) (N 1), Mv 4 16]))
def c_kern_Kernel_birth : AFn := ⟨45, [.tmp 2, .tmp 3], .seq (.region [I 2 .mv [.lit .nilptr], Mn 3 0])
 (.seq (.region [Mn 4 1])
 (.seq (.block 0 (.loop c_kern_Kernel_birth_L0))
 (.seq (.draw [[⟨0, Mv 18 0, [], false⟩, ⟨1, Nc 19 18, [], false⟩, ⟨2, Fa 20 0 19, [], false⟩, ⟨3, Ld 21 20, [], false⟩, ⟨4, Mv 22 0, [], false⟩, ⟨5, Nc 23 22, [], false⟩, ⟨6, Fa 24 1 23, [], false⟩, ⟨7, Ld 25 24, [], false⟩, ⟨8, Mv 26 4, [], false⟩, ⟨9, Kc 27 [F 69, T 21, T 25, T 26], [], false⟩, ⟨10, Mv 17 27, [], false⟩, ⟨11, Xt 28 0 17, [], false⟩, ⟨12, Xt 29 1 17, [], false⟩, ⟨13, Mv 5 28, [], false⟩, ⟨14, Mv 6 29, [], false⟩]])
 (.seq (.seq (.region [Mv 30 6, Bi 31 .neq (T 30) (N 0)])
 (.cond (T 31)
 (.seq (.region [Mv 32 6, I 2 .mv [.lit .nilptr], Mv 3 32])
 (.ret))
 (.skip)))
 (.seq (.region [Mv 33 4, Kc 34 [F 70], Mv 35 5, I 36 (.build (.agg [Zi, .nilptr, .nilptr, .nilsl]) [(0, 1), (1, 1), (2, 1)]) [T 33, T 34, T 35], I 37 (.box 100 4) [T 36], Mv 7 37])
 (.seq (.region [Mv 38 0, Nc 39 38, Fa 40 9 39, Ld 41 40, Mv 42 4, Mv 43 7, J (.mapput (.scal .int)) [T 41, T 42, T 43]])
 (.seq (.region [Mv 44 7, Mv 2 44, Mn 3 0])
 (.ret))))))))⟩
abbrev n_kern_Kernel_made : Nat := 35
def c_kern_Kernel_made : AFn := ⟨12, [.tmp 2], .seq (.region [I 2 .mv [Tf]])
 (.seq (.region [Mv 3 0, I 4 (.eqv true .ptr) [T 3, .lit .nilptr], Mv 5 4, Mw 6 0 5 true, IG 7 .nilCheck [T 6] 5 true, IG 8 (.fieldAddr 9) [T 7] 5 true, IG 9 .load1 [T 8] 5 true, IG 10 (.eqv true .map) [T 9, .lit .nilmap] 5 true, I 11 .pick [T 5, T 10, Tf], Mv 2 11])
 (.ret))⟩
abbrev n_kern_Kernel_enter : Nat := 38
def c_kern_Kernel_enter_L0 : ACode :=
 .seq (.region [Bi 93 .lss (T 92) (T 91)])
 (.seq (.cond (T 93)
 (.skip)
 (.exit 1))
 (.seq (.block 2 (.seq (.region [I 94 (.indexs 10) [T 90, T 92], I 95 (.loadn 10) [T 94], I 12 (.alloc 94 10 (.vals [Zi, Zi, Zi, Zi, (.bool false), Zi, Zi, Zi, Zi, (.bool false)])) [], J (.store 10) [T 12, T 95]])
 (.region [Mv 96 0, Mv 97 1, Fa 98 0 12, Ld 99 98, Fa 100 1 12, Ld 101 100, Kc 102 [F 81, T 96, T 97, T 99, T 101]])))
 (.region [Bi 103 .add (T 92) (N 1), Mv 92 103])))
def c_kern_Kernel_enter : AFn := ⟨108, [.cell 6 (.loadn 2)], .seq (.region [I 5 (.box 33 14) [T 2], I 6 (.alloc 30 2 (.vals [Zi, Zi])) []])
 (.seq (.block 0 (.seq (.region [Fa 14 6 5, Ld 15 14, Bi 16 .gtr (T 15) (N 0), Mv 17 16, Mw 18 0 17 true, IG 19 (.fieldAddr 6) [T 5] 17 true, IG 20 .load1 [T 19] 17 true, IG 21 .callv [F 71, T 18, T 20] 17 true, IG 22 (.un .not) [T 21] 17 true, I 23 .pick [T 17, T 22, Tf], Mv 13 23])
 (.cond (T 13)
 (.seq (.region [Kc 24 [F 36, N 7], J (.store 2) [T 6, T 24]])
 (.ret))
 (.seq (.region [Fa 26 6 5, Ld 27 26, Bi 28 .eql (T 27) (N 0), Mv 29 28, IG 30 (.fieldAddr 7) [T 5] 29 true, IG 31 .load1 [T 30] 29 true, IG 32 (.bin .neq) [T 31, N 0] 29 true, I 33 .pick [T 29, T 32, Tf], Mv 25 33])
 (.cond (T 25)
 (.seq (.region [Kc 34 [F 36, N 2], J (.store 2) [T 6, T 34]])
 (.ret))
 (.skip))))))
 (.seq (.region [Fa 35 3 5, Ld 36 35, Fa 37 6 5, Ld 38 37, Fa 39 7 5, Ld 40 39, Fa 41 5 5, Ld 42 41, Fa 43 4 5, Ld 44 43, I 45 (.build (.agg [Zi, Zi, Zi, Zi, (.bool false), Zi, Zi, Zi, Zi, (.bool false)]) [(1, 1), (2, 1), (3, 1), (4, 1), (5, 1), (6, 1)]) [T 36, T 38, T 40, T 42, T 44, N 7], I 7 (.alloc 94 10 (.vals [Zi, Zi, Zi, Zi, (.bool false), Zi, Zi, Zi, Zi, (.bool false)])) [], J (.store 10) [T 7, T 45]])
 (.seq (.seq (.region [Fa 46 5 5, Ld 47 46])
 (.cond (T 47)
 (.region [Fa 48 7 7, J (.store 1) [T 48, N 1]])
 (.skip)))
 (.seq (.seq (.region [Fa 49 5 5, Ld 50 49, Mv 51 50, IG 52 (.fieldAddr 6) [T 5] 51 true, IG 53 .load1 [T 52] 51 true, IG 54 (.bin .eql) [T 53, N 0] 51 true, I 55 .pick [T 51, T 54, Tf]])
 (.cond (T 55)
 (.region [Mv 56 0, Nc 57 56, Fa 58 10 57, Ld 59 58, Bi 60 .add (T 59) (N 1), Fa 61 2 7, J (.store 1) [T 61, T 60]])
 (.skip)))
 (.seq (.draw [[⟨0, Mv 63 1, [], false⟩, ⟨1, Nc 64 63, [], false⟩, ⟨2, Fa 65 1 64, [], false⟩, ⟨3, Ld 66 65, [], false⟩, ⟨4, Fa 67 2 5, [], false⟩, ⟨5, Ld 68 67, [], false⟩, ⟨6, I 69 (.loadn 10) [T 7], [], false⟩, ⟨7, Fa 70 8 5, [], false⟩, ⟨8, Ld 71 70, [], false⟩, ⟨9, Kc 72 [F 80, T 66, T 68, T 69, T 71], [], false⟩, ⟨10, Mv 62 72, [], false⟩, ⟨11, Xt 73 0 62, [], false⟩, ⟨12, Xt 74 1 62, [], false⟩, ⟨13, Xt 75 2 62, [], false⟩, ⟨14, Mv 8 73, [], false⟩, ⟨15, Mv 9 74, [], false⟩, ⟨16, Mv 10 75, [], false⟩]])
 (.seq (.seq (.region [Mv 76 10, Bi 77 .neq (T 76) (N 0)])
 (.cond (T 77)
 (.seq (.region [Mv 78 10, Kc 79 [F 36, T 78], J (.store 2) [T 6, T 79]])
 (.ret))
 (.skip)))
 (.seq (.draw [[⟨0, Mv 80 0, [], false⟩, ⟨1, Mv 81 0, [], false⟩, ⟨2, Nc 82 81, [], false⟩, ⟨3, Fa 83 10 82, [], false⟩, ⟨4, Ld 84 83, [], false⟩, ⟨5, Fa 85 2 7, [], false⟩, ⟨6, Ld 86 85, [], false⟩, ⟨7, I 87 (.max) [T 84, T 86], [], false⟩, ⟨8, Nc 88 80, [], false⟩, ⟨9, Fa 89 10 88, [], false⟩, ⟨10, J (.store 1) [T 89, T 87], [], false⟩]])
 (.seq (.seq (.region [Mv 90 9, I 91 .lens [T 90], Mn 92 0])
 (.block 1 (.loop c_kern_Kernel_enter_L0)))
 (.seq (.region [Mv 104 0, Kc 105 [F 82, T 104]])
 (.seq (.region [Mv 106 8, I 107 (.build (.agg [Zi, Zi]) [(1, 1)]) [T 106], J (.store 2) [T 6, T 107]])
 (.ret)))))))))))⟩
abbrev n_kern_Kernel_access : Nat := 39
def c_kern_Kernel_access : AFn := ⟨79, [.cell 6 (.loadn 2)], .seq (.region [I 5 (.box 33 14) [T 2], I 6 (.alloc 30 2 (.vals [Zi, Zi])) []])
 (.seq (.region [Mn 7 1])
 (.seq (.seq (.region [Fa 13 0 5, Ld 14 13, Bi 15 .eql (T 14) (N 9)])
 (.cond (T 15)
 (.seq (.region [Mn 7 2])
 (.seq (.region [Fa 16 11 5, Ld 17 16, Bi 18 .lss (T 17) (N 0), Mv 19 18, IG 20 (.fieldAddr 11) [T 5] 19 false, IG 21 .load1 [T 20] 19 false, IG 22 (.bin .gtr) [T 21, N 255] 19 false, I 23 .pick [T 19, Tt, T 22]])
 (.cond (T 23)
 (.seq (.region [Kc 24 [F 36, N 2], J (.store 2) [T 6, T 24]])
 (.ret))
 (.skip))))
 (.skip)))
 (.seq (.seq (.region [Mv 25 0, Mv 26 1, Fa 27 2 5, Ld 28 27, Fa 29 10 5, Ld 30 29, Mv 31 7, Kc 32 [F 83, T 25, T 26, T 28, T 30, T 31], Mv 8 32])
 (.seq (.region [Mv 33 8, Bi 34 .neq (T 33) (N 0)])
 (.cond (T 34)
 (.seq (.region [Mv 35 8, Kc 36 [F 36, T 35], J (.store 2) [T 6, T 36]])
 (.ret))
 (.skip))))
 (.seq (.region [Mv 38 0, Mv 39 1, Fa 40 2 5, Ld 41 40, Mv 42 7, Kc 43 [F 84, T 38, T 39, T 41, T 42], Mv 37 43, Xt 44 0 37, Xt 45 1 37, Mv 9 44, Mv 10 45])
 (.seq (.seq (.region [Mv 46 10, Bi 47 .neq (T 46) (N 0)])
 (.cond (T 47)
 (.seq (.region [Mv 48 10, Kc 49 [F 36, T 48], J (.store 2) [T 6, T 49]])
 (.ret))
 (.skip)))
 (.seq (.seq (.region [Fa 50 0 5, Ld 51 50, Bi 52 .eql (T 51) (N 9)])
 (.cond (T 52)
 (.seq (.draw [[⟨0, Mv 53 0, [], false⟩, ⟨1, Nc 54 53, [], false⟩, ⟨2, Fa 55 0 54, [], false⟩, ⟨3, Ld 56 55, [], false⟩, ⟨4, Mv 57 9, [], false⟩, ⟨5, Fa 58 10 5, [], false⟩, ⟨6, Ld 59 58, [], false⟩, ⟨7, Fa 60 11 5, [], false⟩, ⟨8, Ld 61 60, [], false⟩, ⟨9, I 62 (.conv .u8) [T 61], [], false⟩, ⟨10, Kc 63 [F 79, T 56, T 57, T 59, T 62], [], false⟩]])
 (.seq (.region [I 64 (.build (.agg [Zi, Zi]) []) [], J (.store 2) [T 6, T 64]])
 (.ret)))
 (.skip)))
 (.seq (.draw [[⟨0, Mv 66 0, [], false⟩, ⟨1, Nc 67 66, [], false⟩, ⟨2, Fa 68 0 67, [], false⟩, ⟨3, Ld 69 68, [], false⟩, ⟨4, Mv 70 9, [], false⟩, ⟨5, Fa 71 10 5, [], false⟩, ⟨6, Ld 72 71, [], false⟩, ⟨7, Kc 73 [F 77, T 69, T 70, T 72], [], false⟩, ⟨8, Mv 65 73, [], false⟩, ⟨9, Xt 74 0 65, [], false⟩, ⟨10, Xt 75 1 65, [], false⟩, ⟨11, Mv 11 74, [], false⟩, ⟨12, Mv 12 75, [], false⟩]])
 (.seq (.region [Mv 76 11, I 77 (.conv .i64) [T 76], I 78 (.build (.agg [Zi, Zi]) [(1, 1)]) [T 77], J (.store 2) [T 6, T 78]])
 (.ret)))))))))⟩
abbrev n_phys_Memory_Frames : Nat := 44
def c_phys_Memory_Frames : AFn := ⟨10, [.tmp 2], .seq (.region [Mn 2 0])
 (.seq (.seq (.region [Mv 3 0, I 4 (.eqv false .ptr) [T 3, .lit .nilptr]])
 (.cond (T 4)
 (.seq (.region [Mn 2 0])
 (.ret))
 (.skip)))
 (.seq (.region [Mv 5 0, Nc 6 5, Fa 7 0 6, Ld 8 7, I 9 .lens [T 8], Mv 2 9])
 (.ret)))⟩
abbrev n_frames_Pool_Get : Nat := 45
def c_frames_Pool_Get : AFn := ⟨30, [.cell 4 (.loadn 5), .tmp 5], .seq (.region [I 4 (.alloc 80 5 (.vals [Zi, Zi, Zi, Zi, Zi])) [], I 5 .mv [Tf]])
 (.seq (.seq (.region [Mv 6 0, Kc 7 [F 103, T 6], I 8 (.un .not) [T 7], Mv 9 8, Mw 10 1 9 false, IG 11 (.bin .lss) [T 10, N 0] 9 false, I 12 .pick [T 9, Tt, T 11], Mv 13 12, Mw 14 1 13 false, Mw 15 0 13 false, IG 16 .nilCheck [T 15] 13 false, IG 17 (.fieldAddr 0) [T 16] 13 false, IG 18 .load1 [T 17] 13 false, IG 19 .lens [T 18] 13 false, IG 20 (.bin .geq) [T 14, T 19] 13 false, I 21 .pick [T 13, Tt, T 20]])
 (.cond (T 21)
 (.seq (.region [I 22 (.build (.agg [Zi, Zi, Zi, Zi, Zi]) []) [], J (.store 5) [T 4, T 22], I 5 .mv [Tf]])
 (.ret))
 (.skip)))
 (.seq (.region [Mv 23 0, Nc 24 23, Fa 25 0 24, Ld 26 25, Mv 27 1, I 28 (.indexs 5) [T 26, T 27], I 29 (.loadn 5) [T 28], J (.store 5) [T 4, T 29], I 5 .mv [Tt]])
 (.ret)))⟩
abbrev n_loan_Desk_made : Nat := 47
def c_loan_Desk_made : AFn := ⟨12, [.tmp 2], .seq (.region [I 2 .mv [Tf]])
 (.seq (.region [Mv 3 0, I 4 (.eqv true .ptr) [T 3, .lit .nilptr], Mv 5 4, Mw 6 0 5 true, IG 7 .nilCheck [T 6] 5 true, IG 8 (.fieldAddr 0) [T 7] 5 true, IG 9 .load1 [T 8] 5 true, IG 10 (.eqv true .ptr) [T 9, .lit .nilptr] 5 true, I 11 .pick [T 5, T 10, Tf], Mv 2 11])
 (.ret))⟩
abbrev n_kern_Kernel_Lend : Nat := 49
def c_kern_Kernel_Lend : AFn := ⟨53, [.tmp 6, .tmp 7], .seq (.region [Mn 6 0, Mn 7 0])
 (.seq (.seq (.region [Mv 13 0, Kc 14 [F 35, T 13], I 15 (.un .not) [T 14]])
 (.cond (T 15)
 (.seq (.region [Mn 6 0, Mn 7 1])
 (.ret))
 (.skip)))
 (.seq (.region [Mv 16 0, Nc 17 16, Fa 18 9 17, Ld 19 18, Mv 20 1, I 21 (.lookup (.scal .int) .nilptr false) [T 19, T 20], Mv 8 21])
 (.seq (.seq (.region [Mv 22 8, I 23 (.eqv false .ptr) [T 22, .lit .nilptr]])
 (.cond (T 23)
 (.seq (.region [Mn 6 0, Mn 7 7])
 (.ret))
 (.skip)))
 (.seq (.seq (.region [Mv 24 0, Mv 25 8, Mv 26 2, Kc 27 [F 83, T 24, T 25, T 26, N 0, N 1], Mv 9 27])
 (.seq (.region [Mv 28 9, Bi 29 .neq (T 28) (N 0)])
 (.cond (T 29)
 (.seq (.region [Mv 30 9, Mn 6 0, Mv 7 30])
 (.ret))
 (.skip))))
 (.seq (.region [Mv 32 0, Mv 33 8, Mv 34 2, Kc 35 [F 84, T 32, T 33, T 34, N 1], Mv 31 35, Xt 36 0 31, Xt 37 1 31, Mv 10 36, Mv 11 37])
 (.seq (.seq (.region [Mv 38 11, Bi 39 .neq (T 38) (N 0)])
 (.cond (T 39)
 (.seq (.region [Mv 40 11, Mn 6 0, Mv 7 40])
 (.ret))
 (.skip)))
 (.seq (.seq (.region [Mv 41 0, Nc 42 41, Fa 43 1 42, Ld 44 43, Mv 45 10, Kc 46 [F 115, T 44, T 45, N 1], Mv 12 46])
 (.seq (.region [Mv 47 12, Bi 48 .neq (T 47) (N 0)])
 (.cond (T 48)
 (.seq (.region [Mn 6 0, Mn 7 5])
 (.ret))
 (.skip))))
 (.seq (.region [Mv 49 0, Mv 50 10, Kc 51 [F 116, T 49, T 50]])
 (.seq (.region [Mv 52 10, Mv 6 52, Mn 7 0])
 (.ret))))))))))⟩
abbrev n_kern_Kernel_Back : Nat := 50
def c_kern_Kernel_Back : AFn := ⟨42, [.tmp 4], .seq (.region [Mn 4 0])
 (.seq (.seq (.region [Mv 7 0, Kc 8 [F 35, T 7], I 9 (.un .not) [T 8]])
 (.cond (T 9)
 (.seq (.region [Mn 4 1])
 (.ret))
 (.skip)))
 (.seq (.region [Mv 11 0, Nc 12 11, Fa 13 1 12, Ld 14 13, Mv 15 1, Kc 16 [F 45, T 14, T 15], Mv 10 16, Xt 17 0 10, Xt 18 1 10, I 5 (.alloc 80 5 (.vals [Zi, Zi, Zi, Zi, Zi])) [], J (.store 5) [T 5, T 17], Mv 6 18])
 (.seq (.seq (.region [Fa 19 4 5, Ld 20 19, Bi 21 .eql (T 20) (N 0)])
 (.cond (T 21)
 (.seq (.region [Mn 4 7])
 (.ret))
 (.skip)))
 (.seq (.region [Mv 22 0, Nc 23 22, Fa 24 1 23, Ld 25 24, Mv 26 1, Kc 27 [F 115, T 25, T 26, N (-1)]])
 (.seq (.seq (.region [Fa 28 0 5, Ld 29 28, Bi 30 .eql (T 29) (N 4), Mv 31 30, IG 32 (.fieldAddr 4) [T 5] 31 true, IG 33 .load1 [T 32] 31 true, IG 34 (.bin .eql) [T 33, N 1] 31 true, I 35 .pick [T 31, T 34, Tf]])
 (.cond (T 35)
 (.region [Mv 36 0, Nc 37 36, Fa 38 1 37, Ld 39 38, Mv 40 1, Kc 41 [F 117, T 39, T 40]])
 (.skip)))
 (.seq (.region [Mn 4 0])
 (.ret)))))))⟩
abbrev n_slices_Sorted_int : Nat := 51
def c_slices_Sorted_int : AFn := ⟨9, [.tmp 2], .seq (.region [I 2 .mv [.lit .nilsl]])
 (.seq (.region [Mv 4 0, Kc 5 [F 118, T 4], Mv 3 5])
 (.seq (.region [Mv 6 3, Kc 7 [F 119, T 6]])
 (.seq (.region [Mv 8 3, Mv 2 8])
 (.ret))))⟩
abbrev n_maps_Keys_map_int_int_int_int : Nat := 52
def c_maps_Keys_map_int_int_int_int : AFn := ⟨4, [.tmp 2], .seq (.region [I 1 (.box 83 1) [T 0], I 2 .mv [.lit .nilfunc]])
 (.seq (.region [I 3 (.mkfunc 120 0) [T 1], Mv 2 3])
 (.ret))⟩
abbrev n_frames_Pool_Free : Nat := 53
def c_frames_Pool_Free : AFn := ⟨5, [.tmp 2], .seq (.region [Mn 2 0])
 (.seq (.region [Mv 3 0, Kc 4 [F 121, T 3, N 0], Mv 2 4])
 (.ret))⟩
abbrev n_kern_Kernel_FrameByte : Nat := 54
def c_kern_Kernel_FrameByte : AFn := ⟨40, [.tmp 6, .tmp 7], .seq (.region [Mn 6 0, I 7 .mv [Tf]])
 (.seq (.seq (.region [Mv 12 0, Kc 13 [F 35, T 12], I 14 (.un .not) [T 13]])
 (.cond (T 14)
 (.seq (.region [Mn 6 0, I 7 .mv [Tf]])
 (.ret))
 (.skip)))
 (.seq (.seq (.region [Mv 16 0, Nc 17 16, Fa 18 1 17, Ld 19 18, Mv 20 1, Kc 21 [F 45, T 19, T 20], Mv 15 21, Xt 22 0 15, Xt 23 1 15, I 8 (.alloc 80 5 (.vals [Zi, Zi, Zi, Zi, Zi])) [], J (.store 5) [T 8, T 22], Mv 9 23])
 (.seq (.region [Fa 24 4 8, Ld 25 24, Bi 26 .eql (T 25) (N 0)])
 (.cond (T 26)
 (.seq (.region [Mn 6 0, I 7 .mv [Tf]])
 (.ret))
 (.skip))))
 (.seq (.region [Mv 28 0, Nc 29 28, Fa 30 0 29, Ld 31 30, Mv 32 1, Mv 33 2, Kc 34 [F 77, T 31, T 32, T 33], Mv 27 34, Xt 35 0 27, Xt 36 1 27, Mv 10 35, Mv 11 36])
 (.seq (.region [Mv 37 10, I 38 (.conv .i64) [T 37], Mv 39 11, Mv 6 38, Mv 7 39])
 (.ret)))))⟩
abbrev n_vmap_Map_At : Nat := 55
def c_vmap_Map_At : AFn := ⟨31, [.cell 4 (.loadn 10), .tmp 5], .seq (.region [I 4 (.alloc 94 10 (.vals [Zi, Zi, Zi, Zi, (.bool false), Zi, Zi, Zi, Zi, (.bool false)])) [], I 5 .mv [Tf]])
 (.seq (.seq (.region [Mv 8 0, Kc 9 [F 122, T 8], I 10 (.un .not) [T 9]])
 (.cond (T 10)
 (.seq (.region [I 11 (.build (.agg [Zi, Zi, Zi, Zi, (.bool false), Zi, Zi, Zi, Zi, (.bool false)]) []) [], J (.store 10) [T 4, T 11], I 5 .mv [Tf]])
 (.ret))
 (.skip)))
 (.seq (.region [Mv 13 0, Nc 14 13, Fa 15 0 14, Ld 16 15, Mv 17 1, Kc 18 [F 123, T 16, T 17], Mv 12 18, Xt 19 0 12, Xt 20 1 12, Mv 6 19, Mv 7 20])
 (.seq (.seq (.region [Mv 21 7, I 22 (.un .not) [T 21]])
 (.cond (T 22)
 (.seq (.region [I 23 (.build (.agg [Zi, Zi, Zi, Zi, (.bool false), Zi, Zi, Zi, Zi, (.bool false)]) []) [], J (.store 10) [T 4, T 23], I 5 .mv [Tf]])
 (.ret))
 (.skip)))
 (.seq (.region [Mv 24 0, Nc 25 24, Fa 26 0 25, Ld 27 26, Mv 28 6, I 29 (.indexs 10) [T 27, T 28], I 30 (.loadn 10) [T 29], J (.store 10) [T 4, T 30], I 5 .mv [Tt]])
 (.ret)))))⟩
abbrev n_anon_Pool_Get : Nat := 56
def c_anon_Pool_Get : AFn := ⟨23, [.cell 4 (.loadn 3), .tmp 5], .seq (.region [I 4 (.alloc 103 3 (.vals [Zi, Zi, Zi])) [], I 5 .mv [Tf]])
 (.seq (.seq (.region [Mv 8 0, Kc 9 [F 124, T 8], I 10 (.un .not) [T 9]])
 (.cond (T 10)
 (.seq (.region [I 11 (.build (.agg [Zi, Zi, Zi]) []) [], J (.store 3) [T 4, T 11], I 5 .mv [Tf]])
 (.ret))
 (.skip)))
 (.seq (.region [Mv 13 0, Nc 14 13, Fa 15 2 14, Ld 16 15, Mv 17 1, I 18 (.lookup (.scal .int) (.agg [Zi, Zi, Zi]) true) [T 16, T 17], Mv 12 18, Xt 19 0 12, Xt 20 1 12, I 6 (.alloc 103 3 (.vals [Zi, Zi, Zi])) [], J (.store 3) [T 6, T 19], Mv 7 20])
 (.seq (.region [I 21 (.loadn 3) [T 6], Mv 22 7, J (.store 3) [T 4, T 21], Mv 5 22])
 (.ret))))⟩
abbrev n_kern_Kernel_anonAt : Nat := 57
def c_kern_Kernel_anonAt : AFn := ⟨33, [.tmp 6], .seq (.region [Mn 6 0])
 (.seq (.region [Mv 8 1, Mv 9 2, Kc 10 [F 125, T 8, T 9], Mv 7 10])
 (.seq (.seq (.region [Mv 11 7, I 12 (.eqv false .ptr) [T 11, .lit .nilptr]])
 (.cond (T 12)
 (.seq (.region [Mn 6 0])
 (.ret))
 (.skip)))
 (.seq (.draw [[⟨0, Mv 13 0, [], false⟩, ⟨1, Nc 14 13, [], false⟩, ⟨2, Fa 15 6 14, [], false⟩, ⟨3, Ld 16 15, [], false⟩, ⟨4, Mv 17 7, [], false⟩, ⟨5, Nc 18 17, [], false⟩, ⟨6, Fa 19 2 18, [], false⟩, ⟨7, Ld 20 19, [], false⟩, ⟨8, Mv 21 7, [], false⟩, ⟨9, Nc 22 21, [], false⟩, ⟨10, Fa 23 3 22, [], false⟩, ⟨11, Ld 24 23, [], false⟩, ⟨12, Mv 25 2, [], false⟩, ⟨13, Bi 26 .add (T 24) (T 25), [], false⟩, ⟨14, Mv 27 7, [], false⟩, ⟨15, Nc 28 27, [], false⟩, ⟨16, Fa 29 0 28, [], false⟩, ⟨17, Ld 30 29, [], false⟩, ⟨18, Bi 31 .sub (T 26) (T 30), [], false⟩, ⟨19, Kc 32 [F 126, T 16, T 20, T 31], [], false⟩, ⟨20, Mv 6 32, [], false⟩]])
 (.ret))))⟩
abbrev n_kern_Kernel_held : Nat := 58
def c_kern_Kernel_held : AFn := ⟨21, [.tmp 6], .seq (.region [I 6 .mv [.lit .nilsl]])
 (.seq (.seq (.region [Mv 7 1, Bi 8 .geq (T 7) (N 0)])
 (.cond (T 8)
 (.seq (.region [Mv 9 0, Nc 10 9, Fa 11 0 10, Ld 12 11, Mv 13 1, Kc 14 [F 108, T 12, T 13], Mv 6 14])
 (.ret))
 (.skip)))
 (.seq (.region [Mv 15 0, Nc 16 15, Fa 17 2 16, Ld 18 17, Mv 19 2, Kc 20 [F 127, T 18, T 19], Mv 6 20])
 (.ret)))⟩
abbrev n_kern_Kernel_gone : Nat := 59
def c_kern_Kernel_gone : AFn := ⟨33, [.tmp 6], .seq (.region [I 6 .mv [Tf]])
 (.seq (.region [Mv 10 0, Nc 11 10, Fa 12 4 11, Ld 13 12, Mv 14 1, Kc 15 [F 128, T 13, T 14], Mv 9 15, Xt 16 0 9, Xt 17 1 9, Mv 7 16, Mv 8 17])
 (.seq (.region [Mv 18 1, Bi 19 .gtr (T 18) (N 0), Mv 20 19, Mw 21 1 20 true, IG 22 (.bin .leq) [T 21, N 1000] 20 true, I 23 .pick [T 20, T 22, Tf], Mv 24 23, Mw 25 2 24 true, IG 26 (.bin .lss) [T 25, N 0] 24 true, Mw 27 26 24 true, Mw 28 2 27 false, Mw 29 7 27 false, IG 30 (.bin .geq) [T 28, T 29] 27 false, IG 31 .pick [T 27, Tt, T 30] 24 true, I 32 .pick [T 24, T 31, Tf], Mv 6 32])
 (.ret)))⟩
abbrev n_daemon_Daemon_made : Nat := 62
def c_daemon_Daemon_made : AFn := ⟨12, [.tmp 2], .seq (.region [I 2 .mv [Tf]])
 (.seq (.region [Mv 3 0, I 4 (.eqv true .ptr) [T 3, .lit .nilptr], Mv 5 4, Mw 6 0 5 true, IG 7 .nilCheck [T 6] 5 true, IG 8 (.fieldAddr 0) [T 7] 5 true, IG 9 .load1 [T 8] 5 true, IG 10 (.eqv true .ptr) [T 9, .lit .nilptr] 5 true, I 11 .pick [T 5, T 10, Tf], Mv 2 11])
 (.ret))⟩
abbrev n_daemon_Daemon_look : Nat := 64
def c_daemon_Daemon_look : AFn := ⟨34, [.tmp 2, .tmp 3], .seq (.region [I 2 .mv [Tf], I 3 .mv [Tf]])
 (.seq (.region [Mv 8 0, Nc 9 8, Fa 10 1 9, Ld 11 10, Kc 12 [F 137, T 11, N 1], Mv 7 12, Xt 13 0 7, Xt 14 1 7, Mv 4 13, Mv 5 14])
 (.seq (.region [Mv 15 0, I 16 (.mkfunc 138 1) [T 15], Mv 6 16])
 (.seq (.seq (.region [Mv 17 5, I 18 (.un .not) [T 17]])
 (.cond (T 18)
 (.seq (.seq (.region [Mv 20 0, Nc 21 20, Fa 22 1 21, Ld 23 22, Kc 24 [F 137, T 23, N 0], Mv 19 24, Xt 25 0 19, Xt 26 1 19, Mv 4 25, Mv 5 26])
 (.seq (.region [Mv 27 5, I 28 (.un .not) [T 27]])
 (.cond (T 28)
 (.seq (.region [I 2 .mv [Tf], I 3 .mv [Tf]])
 (.ret))
 (.skip))))
 (.region [Mv 29 0, I 30 (.mkfunc 139 1) [T 29], Mv 6 30]))
 (.skip)))
 (.seq (.region [Mv 31 6, Mv 32 4, Kc 33 [T 31, T 32], Mv 2 33, I 3 .mv [Tt]])
 (.ret)))))⟩
abbrev n_slices_ContainsFunc_int_int : Nat := 67
def c_slices_ContainsFunc_int_int : AFn := ⟨9, [.tmp 4], .seq (.region [I 4 .mv [Tf]])
 (.seq (.region [Mv 5 0, Mv 6 1, Kc 7 [F 144, T 5, T 6], Bi 8 .geq (T 7) (N 0), Mv 4 8])
 (.ret))⟩
abbrev n_file_Store_made : Nat := 68
def c_file_Store_made : AFn := ⟨11, [.tmp 2], .seq (.region [I 2 .mv [Tf]])
 (.seq (.region [Mv 3 0, I 4 (.eqv true .ptr) [T 3, .lit .nilptr], Mv 5 4, Mw 6 0 5 true, IG 7 .nilCheck [T 6] 5 true, IG 8 (.fieldAddr 0) [T 7] 5 true, IG 9 .load1 [T 8] 5 true, I 10 .pick [T 5, T 9, Tf], Mv 2 10])
 (.ret))⟩
abbrev n_pmap_New : Nat := 69
def c_pmap_New : AFn := ⟨31, [.tmp 6, .tmp 7], .seq (.region [I 6 .mv [.lit .nilptr], Mn 7 0])
 (.seq (.seq (.region [Mv 10 0, Kc 11 [F 44, T 10], Bi 12 .eql (T 11) (N 0)])
 (.cond (T 12)
 (.seq (.region [I 6 .mv [.lit .nilptr], Mn 7 1])
 (.ret))
 (.skip)))
 (.seq (.region [Mv 14 1, Mv 15 2, Kc 16 [F 145, T 14, N 1, T 15, N 0], Mv 13 16, Xt 17 0 13, Xt 18 1 13, Mv 8 17, Mv 9 18])
 (.seq (.seq (.region [Mv 19 9, Bi 20 .neq (T 19) (N 0)])
 (.cond (T 20)
 (.seq (.region [Mv 21 9, I 6 .mv [.lit .nilptr], Mv 7 21])
 (.ret))
 (.skip)))
 (.seq (.region [Mv 22 0, Mv 23 8, Kc 24 [F 146, T 22, T 23]])
 (.seq (.region [Mv 25 0, Mv 26 1, Mv 27 2, Mv 28 8, I 29 (.build (.agg [.nilptr, .nilptr, Zi, Zi, Zi]) [(0, 1), (1, 1), (2, 1), (3, 1), (4, 1)]) [T 25, T 26, T 27, T 28, N 1], I 30 (.box 210 5) [T 29], Mv 6 30, Mn 7 0])
 (.ret))))))⟩
abbrev n_vmap_New : Nat := 70
def c_vmap_New : AFn := ⟨3, [.tmp 0], .seq (.region [I 0 .mv [.lit .nilptr]])
 (.seq (.region [I 1 (.build (.agg [.nilsl, (.bool false)]) [(1, 1)]) [Tt], I 2 (.box 190 2) [T 1], Mv 0 2])
 (.ret))⟩
abbrev n_phys_Memory_Byte : Nat := 77
def c_phys_Memory_Byte : AFn := ⟨27, [.tmp 6, .tmp 7], .seq (.region [I 6 .mv [.lit (.int .u8 0)], I 7 .mv [Tf]])
 (.seq (.region [Mv 9 0, Mv 10 1, Kc 11 [F 159, T 9, T 10], Mv 8 11])
 (.seq (.seq (.region [Mv 12 8, I 13 (.eqv false .ptr) [T 12, .lit .nilptr], Mv 14 13, Mw 15 2 14 false, IG 16 (.bin .lss) [T 15, N 0] 14 false, I 17 .pick [T 14, Tt, T 16], Mv 18 17, Mw 19 2 18 false, IG 20 (.bin .geq) [T 19, N 4096] 18 false, I 21 .pick [T 18, Tt, T 20]])
 (.cond (T 21)
 (.seq (.region [I 6 .mv [.lit (.int .u8 0)], I 7 .mv [Tf]])
 (.ret))
 (.skip)))
 (.seq (.region [Mv 22 8, Mv 23 2, Nc 24 22, I 25 (.indexa 4096 1) [T 24, T 23], Ld 26 25, Mv 6 26, I 7 .mv [Tt]])
 (.ret))))⟩
abbrev n_phys_Memory_SetByte : Nat := 79
def c_phys_Memory_SetByte : AFn := ⟨28, [.tmp 8], .seq (.region [I 8 .mv [Tf]])
 (.seq (.region [Mv 10 0, Mv 11 1, Kc 12 [F 159, T 10, T 11], Mv 9 12])
 (.seq (.seq (.region [Mv 13 9, I 14 (.eqv false .ptr) [T 13, .lit .nilptr], Mv 15 14, Mw 16 2 15 false, IG 17 (.bin .lss) [T 16, N 0] 15 false, I 18 .pick [T 15, Tt, T 17], Mv 19 18, Mw 20 2 19 false, IG 21 (.bin .geq) [T 20, N 4096] 19 false, I 22 .pick [T 19, Tt, T 21]])
 (.cond (T 22)
 (.seq (.region [I 8 .mv [Tf]])
 (.ret))
 (.skip)))
 (.seq (.region [Mv 23 9, Mv 24 2, Mv 25 3, Nc 26 23, I 27 (.indexa 4096 1) [T 26, T 24], J (.store 1) [T 27, T 25]])
 (.seq (.region [I 8 .mv [Tt]])
 (.ret)))))⟩
abbrev n_vmap_Map_Map : Nat := 80
def c_vmap_Map_Map : AFn := ⟨100, [.tmp 8, .tmp 9, .tmp 10], .seq (.region [I 6 (.box 94 10) [T 2], Mn 8 0, I 9 .mv [.lit .nilsl], Mn 10 0])
 (.seq (.seq (.region [Mv 16 0, Kc 17 [F 122, T 16], I 18 (.un .not) [T 17]])
 (.cond (T 18)
 (.seq (.region [Mn 8 0, I 9 .mv [.lit .nilsl], Mn 10 1])
 (.ret))
 (.skip)))
 (.seq (.seq (.region [Fa 19 0 6, Ld 20 19, Bi 21 .lss (T 20) (N 0), Mv 22 21, IG 23 (.fieldAddr 1) [T 6] 22 false, IG 24 .load1 [T 23] 22 false, IG 25 (.fieldAddr 0) [T 6] 22 false, IG 26 .load1 [T 25] 22 false, IG 27 (.bin .leq) [T 24, T 26] 22 false, I 28 .pick [T 22, Tt, T 27], Mv 29 28, IG 30 (.fieldAddr 1) [T 6] 29 false, IG 31 .load1 [T 30] 29 false, IG 32 (.fieldAddr 0) [T 6] 29 false, IG 33 .load1 [T 32] 29 false, IG 34 (.bin .sub) [T 31, T 33] 29 false, IG 35 (.bin .gtr) [T 34, N 4096] 29 false, I 36 .pick [T 29, Tt, T 35]])
 (.cond (T 36)
 (.seq (.region [Mn 8 0, I 9 .mv [.lit .nilsl], Mn 10 2])
 (.ret))
 (.skip)))
 (.seq (.region [Fa 37 1 6, Ld 38 37, Fa 39 0 6, Ld 40 39, Bi 41 .sub (T 38) (T 40), Mv 11 41])
 (.seq (.region [Mv 42 11, Fa 43 0 6, J (.store 1) [T 43, N 0], Fa 44 1 6, J (.store 1) [T 44, T 42]])
 (.seq (.seq (.region [I 45 (.loadn 10) [T 6], Kc 46 [F 161, T 45], I 47 (.un .not) [T 46], Mv 48 47, Mw 49 3 48 false, Mw 50 49 48 false, Mw 51 1 50 true, Mw 52 11 50 true, IG 53 .callv [F 162, T 51, T 52] 50 true, IG 54 (.un .not) [T 53] 50 true, IG 55 .pick [T 50, T 54, Tf] 48 false, I 56 .pick [T 48, Tt, T 55]])
 (.cond (T 56)
 (.seq (.region [Mn 8 0, I 9 .mv [.lit .nilsl], Mn 10 2])
 (.ret))
 (.skip)))
 (.seq (.region [I 12 .mv [.lit .nilsl]])
 (.seq (.region [Mv 57 0, Nc 58 57, Fa 59 0 58, Ld 60 59, Mv 13 60])
 (.seq (.seq (.region [Mv 61 3])
 (.cond (T 61)
 (.region [Mv 63 13, Mv 64 1, Mv 65 1, Mv 66 11, Bi 67 .add (T 65) (T 66), Kc 68 [F 163, T 63, T 64, T 67], Mv 62 68, Xt 69 0 62, Xt 70 1 62, Mv 13 69, Mv 12 70])
 (.seq (.region [Mv 72 13, Mv 73 1, Mv 74 11, Kc 75 [F 164, T 72, T 73, T 74], Mv 71 75, Xt 76 0 71, Xt 77 1 71, Mv 14 76, Mv 15 77])
 (.seq (.seq (.region [Mv 78 15, I 79 (.un .not) [T 78]])
 (.cond (T 79)
 (.seq (.region [Mn 8 0, I 9 .mv [.lit .nilsl], Mn 10 5])
 (.ret))
 (.skip)))
 (.region [Mv 80 14, Mv 1 80])))))
 (.seq (.region [Mv 81 1, Mv 82 1, Mv 83 11, Bi 84 .add (T 82) (T 83), Fa 85 0 6, J (.store 1) [T 85, T 81], Fa 86 1 6, J (.store 1) [T 86, T 84]])
 (.seq (.region [Mv 88 13, I 89 (.loadn 10) [T 6], Kc 90 [F 165, T 88, T 89], Mv 87 90, Xt 91 0 87, Xt 92 1 87, Mv 13 91])
 (.seq (.region [Mv 93 0, Mv 94 13, Kc 95 [F 166, T 94], Nc 96 93, Fa 97 0 96, J (.store 1) [T 97, T 95]])
 (.seq (.region [Mv 98 1, Mv 99 12, Mv 8 98, Mv 9 99, Mn 10 0])
 (.ret)))))))))))))⟩
abbrev n_kern_Kernel_reap : Nat := 82
def c_kern_Kernel_reap_L1 : ACode :=
 .seq (.region [Bi 27 .lss (T 26) (T 25)])
 (.seq (.cond (T 27)
 (.skip)
 (.exit 2))
 (.seq (.block 3 (.seq (.region [I 28 (.indexs 10) [T 24, T 26], I 29 (.loadn 10) [T 28], I 6 (.alloc 94 10 (.vals [Zi, Zi, Zi, Zi, (.bool false), Zi, Zi, Zi, Zi, (.bool false)])) [], J (.store 10) [T 6, T 29]])
 (.region [Mv 30 2, Fa 31 2 6, Ld 32 31, J (.mapput (.scal .int)) [T 30, T 32, Tt]])))
 (.region [Bi 33 .add (T 26) (N 1), Mv 26 33])))
def c_kern_Kernel_reap_L0 : ACode :=
 .seq (.region [I 16 (.next) [T 15], Xt 17 0 16])
 (.seq (.cond (T 17)
 (.skip)
 (.exit 0))
 (.block 1 (.seq (.region [I 18 (.entry) [T 15], Xt 19 1 18, Mv 4 19])
 (.seq (.region [Mv 20 4, Nc 21 20, Fa 22 1 21, Ld 23 22, Kc 24 [F 86, T 23], I 25 .lens [T 24], Mn 26 0])
 (.block 2 (.loop c_kern_Kernel_reap_L1))))))
def c_kern_Kernel_reap_L2 : ACode :=
 .seq (.region [Bi 41 .lss (T 40) (T 39)])
 (.seq (.cond (T 41)
 (.skip)
 (.exit 4))
 (.seq (.block 5 (.seq (.region [I 42 (.indexs 1) [T 38, T 40], Ld 43 42, Mv 8 43])
 (.seq (.region [Mv 44 0, Nc 45 44, Fa 46 7 45, Ld 47 46, Mv 48 8, Kc 49 [F 105, T 47, T 48], Mv 9 49])
 (.seq (.region [Mv 50 9, Bi 51 .gtr (T 50) (N 1000), Mv 52 51, Mw 53 2 52 true, Mw 54 9 52 true, IG 55 (.lookup (.scal .int) (.bool false) false) [T 53, T 54] 52 true, IG 56 (.un .not) [T 55] 52 true, I 57 .pick [T 52, T 56, Tf]])
 (.cond (T 57)
 (.region [Mv 58 0, Mv 59 8, Kc 60 [F 75, T 58, T 59, N 0]])
 (.skip))))))
 (.region [Bi 61 .add (T 40) (N 1), Mv 40 61])))
def c_kern_Kernel_reap : AFn := ⟨62, [], .seq (.region [I 10 (.mkmap) [], Mv 2 10])
 (.seq (.seq (.region [Mv 11 0, Nc 12 11, Fa 13 9 12, Ld 14 13, I 15 (.range) [T 14]])
 (.block 0 (.loop c_kern_Kernel_reap_L0)))
 (.seq (.region [Mv 34 0, Nc 35 34, Fa 36 7 35, Ld 37 36, Kc 38 [F 151, T 37], I 39 .lens [T 38], Mn 40 0])
 (.block 4 (.loop c_kern_Kernel_reap_L2))))⟩
abbrev n_kern_Kernel_allowed : Nat := 83
def c_kern_Kernel_allowed : AFn := ⟨61, [.tmp 10], .seq (.region [Mn 10 0])
 (.seq (.region [Mv 14 1, Nc 15 14, Fa 16 1 15, Ld 17 16, Mv 18 2, Kc 19 [F 55, T 17, T 18], Mv 13 19, Xt 20 0 13, Xt 21 1 13, I 11 (.alloc 94 10 (.vals [Zi, Zi, Zi, Zi, (.bool false), Zi, Zi, Zi, Zi, (.bool false)])) [], J (.store 10) [T 11, T 20], Mv 12 21])
 (.seq (.block 0 (.seq (.region [Mv 23 3, Bi 24 .lss (T 23) (N 0), Mv 25 24, Mw 26 3 25 false, IG 27 (.bin .geq) [T 26, N 4096] 25 false, I 28 .pick [T 25, Tt, T 27], Mv 22 28])
 (.cond (T 22)
 (.seq (.region [Mn 10 2])
 (.ret))
 (.seq (.region [Mv 30 12, I 31 (.un .not) [T 30], Mv 29 31])
 (.cond (T 29)
 (.seq (.region [Mn 10 4])
 (.ret))
 (.seq (.region [Fa 33 5 11, Ld 34 33, Mv 35 4, Bi 36 .and (T 34) (T 35), Bi 37 .eql (T 36) (N 0), Mv 32 37])
 (.cond (T 32)
 (.seq (.region [Mn 10 3])
 (.ret))
 (.seq (.region [Fa 39 4 11, Ld 40 39, Mv 41 40, Mw 42 0 41 false, Mw 43 1 41 false, Mw 44 2 41 false, IG 45 .callv [F 57, T 42, T 43, T 44] 41 false, IG 46 (.bin .eql) [T 45, N 0] 41 false, I 47 .pick [T 41, Tt, T 46], Mv 48 47, Mw 49 0 48 true, IG 50 (.fieldAddr 2) [T 11] 48 true, IG 51 .load1 [T 50] 48 true, IG 52 (.fieldAddr 3) [T 11] 48 true, IG 53 .load1 [T 52] 48 true, Mw 54 2 48 true, IG 55 (.bin .add) [T 53, T 54] 48 true, IG 56 (.fieldAddr 0) [T 11] 48 true, IG 57 .load1 [T 56] 48 true, IG 58 (.bin .sub) [T 55, T 57] 48 true, IG 59 .callv [F 59, T 49, T 51, T 58] 48 true, I 60 .pick [T 48, T 59, Tf], Mv 38 60])
 (.cond (T 38)
 (.seq (.region [Mn 10 4])
 (.ret))
 (.skip))))))))))
 (.seq (.region [Mn 10 0])
 (.ret))))⟩
abbrev n_kern_Kernel_find : Nat := 84
def c_kern_Kernel_find_L0 : ACode :=
 .seq (.region [Bi 14 .lss (T 13) (N 3)])
 (.seq (.cond (T 14)
 (.skip)
 (.exit 0))
 (.seq (.block 1 (.seq (.seq (.region [Mv 16 0, Mv 17 1, Mv 18 2, Mv 19 3, Kc 20 [F 170, T 16, T 17, T 18, T 19], Mv 15 20, Xt 21 0 15, Xt 22 1 15, Mv 10 21, Mv 11 22])
 (.seq (.region [Mv 23 11])
 (.cond (T 23)
 (.seq (.region [Mv 24 10, Mv 8 24, Mn 9 0])
 (.ret))
 (.skip))))
 (.seq (.region [Mv 25 0, Mv 26 1, Mv 27 2, Mv 28 3, Bi 29 .eql (T 28) (N 2), Kc 30 [F 171, T 25, T 26, T 27, T 29], Mv 12 30])
 (.seq (.region [Mv 31 12, Bi 32 .neq (T 31) (N 0)])
 (.cond (T 32)
 (.seq (.region [Mv 33 12, Mn 8 (-1), Mv 9 33])
 (.ret))
 (.skip))))))
 (.region [Bi 34 .add (T 13) (N 1), Mv 13 34])))
def c_kern_Kernel_find : AFn := ⟨35, [.tmp 8, .tmp 9], .seq (.region [Mn 8 0, Mn 9 0])
 (.seq (.seq (.region [Mn 13 0])
 (.block 0 (.loop c_kern_Kernel_find_L0)))
 (.seq (.region [Mn 8 (-1), Mn 9 4])
 (.ret)))⟩
abbrev n_vmap_Map_Entries : Nat := 86
def c_vmap_Map_Entries : AFn := ⟨11, [.tmp 2], .seq (.region [I 2 .mv [.lit .nilsl]])
 (.seq (.seq (.region [Mv 3 0, Kc 4 [F 122, T 3], I 5 (.un .not) [T 4]])
 (.cond (T 5)
 (.seq (.region [I 2 .mv [.lit .nilsl]])
 (.ret))
 (.skip)))
 (.seq (.region [Mv 6 0, Nc 7 6, Fa 8 0 7, Ld 9 8, Kc 10 [F 172, T 9], Mv 2 10])
 (.ret)))⟩
abbrev n_amap_Pool_Make : Nat := 93
def c_amap_Pool_Make : AFn := ⟨79, [.tmp 4, .tmp 5], .seq (.region [Mn 4 0, Mn 5 0])
 (.seq (.block 0 (.seq (.region [Mv 9 0, Kc 10 [F 184, T 9], I 11 (.un .not) [T 10], Mv 8 11])
 (.cond (T 8)
 (.seq (.region [Mn 4 0, Mn 5 1])
 (.ret))
 (.seq (.region [Mv 13 1, Bi 14 .lss (T 13) (N 1), Mv 15 14, Mw 16 1 15 false, IG 17 (.bin .gtr) [T 16, N 4096] 15 false, I 18 .pick [T 15, Tt, T 17], Mv 12 18])
 (.cond (T 12)
 (.seq (.region [Mn 4 0, Mn 5 2])
 (.ret))
 (.seq (.draw [[⟨0, Mv 20 0, [], false⟩, ⟨1, Nc 21 20, [], false⟩, ⟨2, Fa 22 3 21, [], false⟩, ⟨3, Ld 23 22, [], false⟩, ⟨4, Mv 24 0, [], false⟩, ⟨5, Nc 25 24, [], false⟩, ⟨6, Fa 26 0 25, [], false⟩, ⟨7, Ld 27 26, [], false⟩, ⟨8, Bi 28 .geq (T 23) (T 27), [], false⟩, ⟨9, Mv 19 28, [], false⟩]])
 (.cond (T 19)
 (.seq (.region [Mn 4 0, Mn 5 5])
 (.ret))
 (.skip))))))))
 (.seq (.draw [[⟨0, Mv 29 1, [], false⟩, ⟨2, Mv 31 1, [], false⟩, ⟨1, Kc 30 [F 185, T 29], [], false⟩, ⟨3, I 32 (.mkslice 3 1 8 (.vals [Zi])) [T 31, T 31], [], false⟩, ⟨4, I 33 (.build (.agg [.nilptr, .nilsl]) [(0, 1), (1, 1)]) [T 30, T 32], [], false⟩, ⟨5, I 34 (.box 250 2) [T 33], [], false⟩, ⟨6, Mv 6 34, [], false⟩],
[⟨0, Mv 29 1, [], false⟩, ⟨2, Mv 31 1, [], false⟩, ⟨3, I 32 (.mkslice 3 1 8 (.vals [Zi])) [T 31, T 31], [], false⟩, ⟨1, Kc 30 [F 185, T 29], [], false⟩, ⟨4, I 33 (.build (.agg [.nilptr, .nilsl]) [(0, 1), (1, 1)]) [T 30, T 32], [], false⟩, ⟨5, I 34 (.box 250 2) [T 33], [], false⟩, ⟨6, Mv 6 34, [], false⟩]])
 (.seq (.region [Mv 35 6, Nc 36 35, Fa 37 0 36, Ld 38 37, Mv 39 1, Kc 40 [F 186, T 38, N 0, T 39, N 1]])
 (.seq (.region [Mv 41 0, Nc 42 41, Fa 43 3 42, Ld 44 43, Bi 45 .add (T 44) (N 1), Nc 46 41, Fa 47 3 46, J (.store 1) [T 47, T 45]])
 (.seq (.seq (.region [Mv 48 0, Nc 49 48, Fa 50 2 49, Ld 51 50, Kc 52 [F 187, T 51, .lit .nilptr], Mv 7 52])
 (.seq (.region [Mv 53 7, Bi 54 .geq (T 53) (N 0)])
 (.cond (T 54)
 (.seq (.region [Mv 55 0, Nc 56 55, Fa 57 2 56, Ld 58 57, Mv 59 7, Mv 60 6, I 61 (.indexs 1) [T 58, T 59], J (.store 1) [T 61, T 60]])
 (.seq (.region [Mv 62 7, Bi 63 .add (T 62) (N 1), Mv 4 63, Mn 5 0])
 (.ret)))
 (.skip))))
 (.seq (.region [Mv 64 0, Mv 65 0, Nc 66 65, Fa 67 2 66, Ld 68 67, Mv 69 6, I 70 (.bslice 246 1 1 (.vals [.nilptr]) [0]) [T 69], I 71 (.append 246 1 8 (.vals [.nilptr])) [T 68, T 70], Nc 72 64, Fa 73 2 72, J (.store 1) [T 73, T 71]])
 (.seq (.region [Mv 74 0, Nc 75 74, Fa 76 2 75, Ld 77 76, I 78 .lens [T 77], Mv 4 78, Mn 5 0])
 (.ret))))))))⟩
abbrev n_kern_proc_insert : Nat := 96
def c_kern_proc_insert : AFn := ⟨29, [], .seq (.region [I 3 (.box 168 6) [T 1]])
 (.seq (.region [Mv 5 0, Nc 6 5, Fa 7 3 6, Ld 8 7, I 9 (.mkfunc 195 0) [T 3], Kc 10 [F 194, T 8, T 9], Mv 4 10])
 (.seq (.seq (.region [Mv 11 4, Bi 12 .lss (T 11) (N 0)])
 (.cond (T 12)
 (.region [Mv 13 0, Nc 14 13, Fa 15 3 14, Ld 16 15, I 17 .lens [T 16], Mv 4 17])
 (.skip)))
 (.draw [[⟨0, Mv 18 0, [], false⟩, ⟨1, Mv 19 0, [], false⟩, ⟨2, Nc 20 19, [], false⟩, ⟨3, Fa 21 3 20, [], false⟩, ⟨4, Ld 22 21, [], false⟩, ⟨5, Mv 23 4, [], false⟩, ⟨6, I 24 (.loadn 6) [T 3], [], false⟩, ⟨7, I 25 (.bslice 168 6 1 (.vals [Zi, Zi, Zi, Zi, (.bool false), (.bool false)]) [0]) [T 24], [(4, Ld 22 21)], false⟩, ⟨8, Kc 26 [F 196, T 22, T 23, T 25], [], false⟩, ⟨9, Nc 27 18, [], false⟩, ⟨10, Fa 28 3 27, [], false⟩, ⟨11, J (.store 1) [T 28, T 26], [], false⟩]])))⟩
abbrev n_frames_Pool_made : Nat := 103
def c_frames_Pool_made : AFn := ⟨13, [.tmp 2], .seq (.region [I 2 .mv [Tf]])
 (.seq (.region [Mv 3 0, I 4 (.eqv true .ptr) [T 3, .lit .nilptr], Mv 5 4, Mw 6 0 5 true, IG 7 .nilCheck [T 6] 5 true, IG 8 (.fieldAddr 0) [T 7] 5 true, IG 9 .load1 [T 8] 5 true, IG 10 .lens [T 9] 5 true, IG 11 (.bin .gtr) [T 10, N 0] 5 true, I 12 .pick [T 5, T 11, Tf], Mv 2 12])
 (.ret))⟩
abbrev n_phys_Memory_Page : Nat := 108
def c_phys_Memory_Page : AFn := ⟨15, [.tmp 4], .seq (.region [I 4 .mv [.lit .nilsl]])
 (.seq (.region [Mv 6 0, Mv 7 1, Kc 8 [F 159, T 6, T 7], Mv 5 8])
 (.seq (.seq (.region [Mv 9 5, I 10 (.eqv false .ptr) [T 9, .lit .nilptr]])
 (.cond (T 10)
 (.seq (.region [I 4 .mv [.lit .nilsl]])
 (.ret))
 (.skip)))
 (.seq (.region [Mv 11 5, Nc 12 11, I 13 (.slicea 4096 1 false false false) [T 12], I 14 (.append 5 1 1 (.bytes 1 0)) [.lit .nilsl, T 13], Mv 4 14])
 (.ret))))⟩
abbrev n_kern_Kernel_leave : Nat := 109
def c_kern_Kernel_leave : AFn := ⟨33, [], .seq (.region [Mv 6 0, Mv 7 1, Kc 8 [F 116, T 6, T 7]])
 (.seq (.region [Mv 10 0, Nc 11 10, Fa 12 1 11, Ld 13 12, Mv 14 1, Kc 15 [F 45, T 13, T 14], Mv 9 15, Xt 16 0 9, Xt 17 1 9, I 4 (.alloc 80 5 (.vals [Zi, Zi, Zi, Zi, Zi])) [], J (.store 5) [T 4, T 16], Mv 5 17])
 (.seq (.region [Fa 18 4 4, Ld 19 18, Bi 20 .gtr (T 19) (N 0)])
 (.cond (T 20)
 (.region [Mv 21 0, Nc 22 21, Fa 23 1 22, Ld 24 23, Mv 25 1, Kc 26 [F 191, T 24, T 25, N 4, N 0, N 0]])
 (.region [Mv 27 0, Nc 28 27, Fa 29 1 28, Ld 30 29, Mv 31 1, Kc 32 [F 117, T 30, T 31]]))))⟩
abbrev n_anon_Pool_Put : Nat := 113
def c_anon_Pool_Put : AFn := ⟨19, [.tmp 8], .seq (.region [I 6 (.box 3 1) [T 2], I 7 (.box 3 1) [T 3], Mn 8 0])
 (.seq (.region [Mv 12 0, Mv 13 1, I 14 (.mkfunc 216 0) [T 6, T 7], Kc 15 [F 215, T 12, T 13, T 14], Mv 11 15, Xt 16 0 11, Xt 17 1 11, I 9 (.alloc 103 3 (.vals [Zi, Zi, Zi])) [], J (.store 3) [T 9, T 16], Mv 10 17])
 (.seq (.region [Mv 18 10, Mv 8 18])
 (.ret)))⟩
abbrev n_frames_Pool_Loan : Nat := 115
def c_frames_Pool_Loan : AFn := ⟨11, [.tmp 6], .seq (.region [I 5 (.box 3 1) [T 2], Mn 6 0])
 (.seq (.region [Mv 7 0, Mv 8 1, I 9 (.mkfunc 218 0) [T 5], Kc 10 [F 217, T 7, T 8, T 9], Mv 6 10])
 (.ret))⟩
abbrev n_kern_Kernel_alone : Nat := 116
def c_kern_Kernel_alone_A1 : ACode :=
 .seq (.region [Mv 8 30])
 (.region [I 9 (.alloc 204 2 (.vals [Zi, Zi])) [], J (.store 2) [T 9, T 31]])
def c_kern_Kernel_alone_B1 : ACode :=
 .block 3 (.seq (.region [Fa 32 1 9, Ld 33 32, Ld 34 3, Bi 35 .eql (T 33) (T 34)])
 (.cond (T 35)
 (.region [Ld 36 7, Mv 37 8, I 38 (.bslice 3 1 1 (.vals [Zi]) [0]) [T 37], I 39 (.append 3 1 8 (.vals [Zi])) [T 36, T 38], J (.store 1) [T 7, T 39]])
 (.skip)))
def c_kern_Kernel_alone_L2 : ACode :=
 .seq (.region [Bi 43 .lss (T 42) (T 41)])
 (.seq (.cond (T 43)
 (.skip)
 (.exit 4))
 (.seq (.block 5 (.seq (.region [I 44 (.indexs 1) [T 40, T 42], Ld 45 44, Mv 11 45])
 (.region [Mv 46 0, Mv 47 6, Mv 48 11, Kc 49 [F 200, T 46, T 47, T 48]])))
 (.region [Bi 50 .add (T 42) (N 1), Mv 42 50])))
def c_kern_Kernel_alone_L0 : ACode :=
 .seq (.region [Bi 16 .lss (T 15) (T 14)])
 (.seq (.cond (T 16)
 (.skip)
 (.exit 0))
 (.seq (.block 1 (.seq (.region [I 17 (.indexs 1) [T 13, T 15], Ld 18 17, Mv 5 18])
 (.seq (.region [Mv 19 0, Nc 20 19, Fa 21 9 20, Ld 22 21, Mv 23 5, I 24 (.lookup (.scal .int) .nilptr false) [T 22, T 23], Mv 6 24])
 (.seq (.region [I 7 (.alloc 34 1 (.vals [.nilsl])) []])
 (.seq (.seq (.region [Mv 25 6, Nc 26 25, Fa 27 2 26, Ld 28 27, Kc 29 [F 141, T 28]])
 (.block 2 (.rfun (T 29) [30, 31] c_kern_Kernel_alone_A1 c_kern_Kernel_alone_B1)))
 (.seq (.region [Ld 40 7, I 41 .lens [T 40], Mn 42 0])
 (.block 4 (.loop c_kern_Kernel_alone_L2))))))))
 (.region [Bi 51 .add (T 15) (N 1), Mv 15 51])))
def c_kern_Kernel_alone : AFn := ⟨52, [], .seq (.region [I 3 (.box 3 1) [T 1]])
 (.seq (.region [Mv 12 0, Kc 13 [F 140, T 12], I 14 .lens [T 13], Mn 15 0])
 (.block 0 (.loop c_kern_Kernel_alone_L0)))⟩
abbrev n_frames_Pool_Give : Nat := 117
def c_frames_Pool_Give : AFn := ⟨8, [.tmp 4], .seq (.region [Mn 4 0])
 (.seq (.region [Mv 5 0, Mv 6 1, Kc 7 [F 217, T 5, T 6, F 220], Mv 4 7])
 (.ret))⟩
abbrev n_slices_Collect_int : Nat := 118
def c_slices_Collect_int : AFn := ⟨5, [.tmp 2], .seq (.region [I 2 .mv [.lit .nilsl]])
 (.seq (.region [Mv 3 0, Kc 4 [F 221, .lit .nilsl, T 3], Mv 2 4])
 (.ret))⟩
abbrev n_slices_Sort_int_int : Nat := 119
def c_slices_Sort_int_int : AFn := ⟨11, [], .seq (.region [Mv 3 0, I 4 .lens [T 3], Mv 2 4])
 (.region [Mv 5 0, Mv 6 2, Mv 7 2, I 8 (.conv .u64) [T 7], Kc 9 [F 223, T 8], Kc 10 [F 222, T 5, N 0, T 6, T 9]])⟩
abbrev n_maps_Keys_map_int_int_int_int_1 : Nat := 120
def c_maps_Keys_map_int_int_int_int_1_L0 : ACode :=
 .seq (.region [I 6 (.next) [T 5], Xt 7 0 6])
 (.seq (.cond (T 7)
 (.skip)
 (.exit 0))
 (.block 1 (.seq (.region [I 8 (.entry) [T 5], Xt 9 0 8, Mv 3 9])
 (.seq (.region [Mv 10 0, Mv 11 3, Kc 12 [T 10, T 11], I 13 (.un .not) [T 12]])
 (.cond (T 13)
 (.ret)
 (.skip))))))
def c_maps_Keys_map_int_int_int_int_1 : AFn := ⟨14, [], .seq (.region [Ld 4 1, I 5 (.range) [T 4]])
 (.block 0 (.loop c_maps_Keys_map_int_int_int_int_1_L0))⟩
abbrev n_frames_Pool_Count : Nat := 121
def c_frames_Pool_Count_L0 : ACode :=
 .seq (.region [Bi 17 .lss (T 16) (T 15)])
 (.seq (.cond (T 17)
 (.skip)
 (.exit 0))
 (.seq (.block 1 (.seq (.region [I 18 (.indexs 5) [T 14, T 16], I 19 (.loadn 5) [T 18], I 7 (.alloc 80 5 (.vals [Zi, Zi, Zi, Zi, Zi])) [], J (.store 5) [T 7, T 19]])
 (.seq (.region [Fa 20 0 7, Ld 21 20, Mv 22 1, Bi 23 .eql (T 21) (T 22)])
 (.cond (T 23)
 (.region [Mv 24 5, Bi 25 .add (T 24) (N 1), Mv 5 25])
 (.skip)))))
 (.region [Bi 26 .add (T 16) (N 1), Mv 16 26])))
def c_frames_Pool_Count : AFn := ⟨28, [.tmp 4], .seq (.region [Mn 4 0])
 (.seq (.seq (.region [Mv 8 0, Kc 9 [F 103, T 8], I 10 (.un .not) [T 9]])
 (.cond (T 10)
 (.seq (.region [Mn 4 0])
 (.ret))
 (.skip)))
 (.seq (.region [Mn 5 0])
 (.seq (.seq (.region [Mv 11 0, Nc 12 11, Fa 13 0 12, Ld 14 13, I 15 .lens [T 14], Mn 16 0])
 (.block 0 (.loop c_frames_Pool_Count_L0)))
 (.seq (.region [Mv 27 5, Mv 4 27])
 (.ret)))))⟩
abbrev n_vmap_Map_made : Nat := 122
def c_vmap_Map_made : AFn := ⟨11, [.tmp 2], .seq (.region [I 2 .mv [Tf]])
 (.seq (.region [Mv 3 0, I 4 (.eqv true .ptr) [T 3, .lit .nilptr], Mv 5 4, Mw 6 0 5 true, IG 7 .nilCheck [T 6] 5 true, IG 8 (.fieldAddr 1) [T 7] 5 true, IG 9 .load1 [T 8] 5 true, I 10 .pick [T 5, T 9, Tf], Mv 2 10])
 (.ret))⟩
abbrev n_entry_Find : Nat := 123
def c_entry_Find : AFn := ⟨28, [.tmp 4, .tmp 5], .seq (.region [Mn 4 0, I 5 .mv [Tf]])
 (.seq (.region [Mv 9 0, Mv 10 1, Kc 11 [F 224, T 9, T 10, F 225], Mv 8 11, Xt 12 0 8, Xt 13 1 8, Mv 6 12, Mv 7 13])
 (.seq (.draw [[⟨0, Mv 14 6, [], false⟩, ⟨1, Mv 15 6, [], false⟩, ⟨2, Mv 16 0, [], false⟩, ⟨3, I 17 .lens [T 16], [], false⟩, ⟨4, Bi 18 .lss (T 15) (T 17), [], false⟩, ⟨5, Mv 19 18, [], false⟩, ⟨6, Mw 20 0 19 true, [], false⟩, ⟨7, Mw 21 6 19 true, [], false⟩, ⟨8, IG 22 (.indexs 10) [T 20, T 21] 19 true, [], false⟩, ⟨9, IG 23 (.fieldAddr 0) [T 22] 19 true, [], false⟩, ⟨10, IG 24 .load1 [T 23] 19 true, [], false⟩, ⟨11, Mw 25 1 19 true, [], false⟩, ⟨12, IG 26 (.bin .leq) [T 24, T 25] 19 true, [], false⟩, ⟨13, I 27 .pick [T 19, T 26, Tf], [], false⟩, ⟨14, Mv 4 14, [], false⟩, ⟨15, Mv 5 27, [], false⟩]])
 (.ret)))⟩
abbrev n_anon_Pool_made : Nat := 124
def c_anon_Pool_made : AFn := ⟨11, [.tmp 2], .seq (.region [I 2 .mv [Tf]])
 (.seq (.region [Mv 3 0, I 4 (.eqv true .ptr) [T 3, .lit .nilptr], Mv 5 4, Mw 6 0 5 true, IG 7 .nilCheck [T 6] 5 true, IG 8 (.fieldAddr 1) [T 7] 5 true, IG 9 .load1 [T 8] 5 true, I 10 .pick [T 5, T 9, Tf], Mv 2 10])
 (.ret))⟩
abbrev n_kern_proc_at : Nat := 125
def c_kern_proc_at : AFn := ⟨20, [.tmp 4], .seq (.region [I 3 (.box 3 1) [T 1], I 4 .mv [.lit .nilptr]])
 (.seq (.region [Mv 6 0, Nc 7 6, Fa 8 3 7, Ld 9 8, I 10 (.mkfunc 226 0) [T 3], Kc 11 [F 194, T 9, T 10], Mv 5 11])
 (.seq (.seq (.region [Mv 12 5, Bi 13 .lss (T 12) (N 0)])
 (.cond (T 13)
 (.seq (.region [I 4 .mv [.lit .nilptr]])
 (.ret))
 (.skip)))
 (.seq (.region [Mv 14 0, Nc 15 14, Fa 16 3 15, Ld 17 16, Mv 18 5, I 19 (.indexs 6) [T 17, T 18], Mv 4 19])
 (.ret))))⟩
abbrev n_amap_Pool_Get : Nat := 126
def c_amap_Pool_Get : AFn := ⟨25, [.tmp 6], .seq (.region [Mn 6 0])
 (.seq (.seq (.region [Mv 7 2, Bi 8 .lss (T 7) (N 0), Mv 9 8, Mw 10 2 9 false, Mw 11 0 9 false, Mw 12 1 9 false, IG 13 .callv [F 227, T 11, T 12] 9 false, IG 14 (.bin .geq) [T 10, T 13] 9 false, I 15 .pick [T 9, Tt, T 14]])
 (.cond (T 15)
 (.seq (.region [Mn 6 0])
 (.ret))
 (.skip)))
 (.seq (.region [Mv 16 0, Mv 17 1, Kc 18 [F 228, T 16, T 17], Nc 19 18, Fa 20 1 19, Ld 21 20, Mv 22 2, I 23 (.indexs 1) [T 21, T 22], Ld 24 23, Mv 6 24])
 (.ret)))⟩
abbrev n_file_Store_Size : Nat := 128
def c_file_Store_Size : AFn := ⟨30, [.tmp 4, .tmp 5], .seq (.region [Mn 4 0, I 5 .mv [Tf]])
 (.seq (.seq (.region [Mv 6 0, Kc 7 [F 68, T 6], I 8 (.un .not) [T 7], Mv 9 8, Mw 10 1 9 false, IG 11 (.bin .lss) [T 10, N 1] 9 false, I 12 .pick [T 9, Tt, T 11], Mv 13 12, Mw 14 1 13 false, Mw 15 0 13 false, IG 16 .nilCheck [T 15] 13 false, IG 17 (.fieldAddr 1) [T 16] 13 false, IG 18 .load1 [T 17] 13 false, IG 19 .lens [T 18] 13 false, IG 20 (.bin .gtr) [T 14, T 19] 13 false, I 21 .pick [T 13, Tt, T 20]])
 (.cond (T 21)
 (.seq (.region [Mn 4 0, I 5 .mv [Tf]])
 (.ret))
 (.skip)))
 (.seq (.region [Mv 22 0, Nc 23 22, Fa 24 1 23, Ld 25 24, Mv 26 1, Bi 27 .sub (T 26) (N 1), I 28 (.indexs 1) [T 25, T 27], Ld 29 28, Mv 4 29, I 5 .mv [Tt]])
 (.ret)))⟩
abbrev n_kern_Kernel_Procs : Nat := 140
def c_kern_Kernel_Procs : AFn := ⟨12, [.tmp 2], .seq (.region [I 2 .mv [.lit .nilsl]])
 (.seq (.seq (.region [Mv 3 0, Kc 4 [F 35, T 3], I 5 (.un .not) [T 4]])
 (.cond (T 5)
 (.seq (.region [I 2 .mv [.lit .nilsl]])
 (.ret))
 (.skip)))
 (.seq (.region [Mv 6 0, Nc 7 6, Fa 8 9 7, Ld 9 8, Kc 10 [F 238, T 9], Kc 11 [F 51, T 10], Mv 2 11])
 (.ret)))⟩
abbrev n_pmap_Map_All : Nat := 141
def c_pmap_Map_All : AFn := ⟨4, [.tmp 2], .seq (.region [I 1 (.box 97 1) [T 0], I 2 .mv [.lit .nilfunc]])
 (.seq (.region [I 3 (.mkfunc 239 0) [T 1], Mv 2 3])
 (.ret))⟩
abbrev n_tlb_Table_Flush : Nat := 143
def c_tlb_Table_Flush : AFn := ⟨9, [.tmp 4], .seq (.region [I 3 (.box 207 2) [T 1], I 4 .mv [Tf]])
 (.seq (.region [Mv 5 0, I 6 (.mkfunc 243 0) [T 3], Kc 7 [F 181, T 5, T 6], Bi 8 .gtr (T 7) (N 0), Mv 4 8])
 (.ret))⟩
abbrev n_slices_IndexFunc_int_int : Nat := 144
def c_slices_IndexFunc_int_int_L0 : ACode :=
 .seq (.region [Bi 9 .lss (T 8) (T 7)])
 (.seq (.cond (T 9)
 (.skip)
 (.exit 0))
 (.seq (.block 1 (.seq (.region [Mv 10 8, Mv 5 10])
 (.seq (.region [Mv 11 1, Mv 12 0, Mv 13 5, I 14 (.indexs 1) [T 12, T 13], Ld 15 14, Kc 16 [T 11, T 15]])
 (.cond (T 16)
 (.seq (.region [Mv 17 5, Mv 4 17])
 (.ret))
 (.skip)))))
 (.region [Bi 18 .add (T 8) (N 1), Mv 8 18])))
def c_slices_IndexFunc_int_int : AFn := ⟨19, [.tmp 4], .seq (.region [Mn 4 0])
 (.seq (.seq (.region [Mv 6 0, I 7 .lens [T 6], Mn 8 0])
 (.block 0 (.loop c_slices_IndexFunc_int_int_L0)))
 (.seq (.region [Mn 4 (-1)])
 (.ret)))⟩
abbrev n_frames_Pool_Take : Nat := 145
def c_frames_Pool_Take : AFn := ⟨49, [.tmp 8, .tmp 9], .seq (.region [Mn 8 0, Mn 9 0])
 (.seq (.seq (.region [Mv 12 0, Kc 13 [F 103, T 12], I 14 (.un .not) [T 13]])
 (.cond (T 14)
 (.seq (.region [Mn 8 0, Mn 9 1])
 (.ret))
 (.skip)))
 (.seq (.seq (.region [Mv 15 1, Bi 16 .lss (T 15) (N 1), Mv 17 16, Mw 18 1 17 false, IG 19 (.bin .gtr) [T 18, N 4] 17 false, I 20 .pick [T 17, Tt, T 19]])
 (.cond (T 20)
 (.seq (.region [Mn 8 0, Mn 9 2])
 (.ret))
 (.skip)))
 (.seq (.region [Mv 21 0, Nc 22 21, Fa 23 1 22, Ld 24 23, Mv 10 24])
 (.seq (.seq (.region [Mv 25 1, Bi 26 .eql (T 25) (N 1)])
 (.cond (T 26)
 (.region [Mn 10 0])
 (.skip)))
 (.seq (.seq (.region [Mv 27 0, Kc 28 [F 53, T 27], Mv 29 10, Bi 30 .leq (T 28) (T 29)])
 (.cond (T 30)
 (.seq (.region [Mn 8 0, Mn 9 5])
 (.ret))
 (.skip)))
 (.seq (.region [Mv 31 0, Nc 32 31, Fa 33 0 32, Ld 34 33, Kc 35 [F 244, T 34, F 245], Mv 11 35])
 (.seq (.seq (.region [Mv 36 11, Bi 37 .lss (T 36) (N 0)])
 (.cond (T 37)
 (.seq (.region [Mn 8 0, Mn 9 5])
 (.ret))
 (.skip)))
 (.seq (.region [Mv 38 0, Nc 39 38, Fa 40 0 39, Ld 41 40, Mv 42 11, Mv 43 1, Mv 44 2, Mv 45 3, I 46 (.build (.agg [Zi, Zi, Zi, Zi, Zi]) [(0, 1), (1, 1), (2, 1)]) [T 43, T 44, T 45], I 47 (.indexs 5) [T 41, T 42], J (.store 5) [T 47, T 46]])
 (.seq (.region [Mv 48 11, Mv 8 48, Mn 9 0])
 (.ret))))))))))⟩
abbrev n_phys_Memory_Zero : Nat := 146
def c_phys_Memory_Zero : AFn := ⟨8, [.tmp 4], .seq (.region [I 4 .mv [Tf]])
 (.seq (.region [Mv 5 0, Mv 6 1, Kc 7 [F 158, T 5, T 6, .lit .nilsl], Mv 4 7])
 (.ret))⟩
abbrev n_object_Pool_Ids : Nat := 151
def c_object_Pool_Ids : AFn := ⟨12, [.tmp 2], .seq (.region [I 2 .mv [.lit .nilsl]])
 (.seq (.seq (.region [Mv 3 0, Kc 4 [F 214, T 3], I 5 (.un .not) [T 4]])
 (.cond (T 5)
 (.seq (.region [I 2 .mv [.lit .nilsl]])
 (.ret))
 (.skip)))
 (.seq (.region [Mv 6 0, Nc 7 6, Fa 8 2 7, Ld 9 8, Kc 10 [F 248, T 9], Kc 11 [F 51, T 10], Mv 2 11])
 (.ret)))⟩
abbrev n_kern_Kernel_take : Nat := 156
def c_kern_Kernel_take : AFn := ⟨20, [.tmp 8, .tmp 9], .seq (.region [Mn 8 0, Mn 9 0])
 (.seq (.region [Mv 10 0, Nc 11 10, Fa 12 1 11, Ld 13 12, Mv 14 1, Mv 15 2, Mv 16 3, Kc 17 [F 145, T 13, T 14, T 15, T 16], Xt 18 0 17, Xt 19 1 17, Mv 8 18, Mv 9 19])
 (.ret))⟩
abbrev n_phys_Memory_Fill : Nat := 158
def c_phys_Memory_Fill : AFn := ⟨20, [.tmp 6], .seq (.region [I 6 .mv [Tf]])
 (.seq (.region [Mv 9 0, Mv 10 1, Kc 11 [F 159, T 9, T 10], Mv 7 11])
 (.seq (.seq (.region [Mv 12 7, I 13 (.eqv false .ptr) [T 12, .lit .nilptr]])
 (.cond (T 13)
 (.seq (.region [I 6 .mv [Tf]])
 (.ret))
 (.skip)))
 (.seq (.region [I 8 (.alloc 302 4096 (.bytes 4096 0)) []])
 (.seq (.region [I 14 (.slicea 4096 1 false false false) [T 8], Mv 15 2, I 16 (.copy 1) [T 14, T 15]])
 (.seq (.region [Mv 17 7, I 18 (.loadn 4096) [T 8], Nc 19 17, J (.store 4096) [T 19, T 18]])
 (.seq (.region [I 6 .mv [Tt]])
 (.ret)))))))⟩
abbrev n_phys_Memory_at : Nat := 159
def c_phys_Memory_at : AFn := ⟨19, [.tmp 4], .seq (.region [I 4 .mv [.lit .nilptr]])
 (.seq (.seq (.region [Mv 5 1, Bi 6 .lss (T 5) (N 0), Mv 7 6, Mw 8 1 7 false, Mw 9 0 7 false, IG 10 .callv [F 44, T 9] 7 false, IG 11 (.bin .geq) [T 8, T 10] 7 false, I 12 .pick [T 7, Tt, T 11]])
 (.cond (T 12)
 (.seq (.region [I 4 .mv [.lit .nilptr]])
 (.ret))
 (.skip)))
 (.seq (.region [Mv 13 0, Nc 14 13, Fa 15 0 14, Ld 16 15, Mv 17 1, I 18 (.indexs 4096) [T 16, T 17], Mv 4 18])
 (.ret)))⟩
abbrev n_phys_Memory_Copy : Nat := 160
def c_phys_Memory_Copy : AFn := ⟨26, [.tmp 6], .seq (.region [I 6 .mv [Tf]])
 (.seq (.region [Mv 9 0, Mv 10 1, Kc 11 [F 159, T 9, T 10], Mv 12 0, Mv 13 2, Kc 14 [F 159, T 12, T 13], Mv 7 11, Mv 8 14])
 (.seq (.seq (.region [Mv 15 7, I 16 (.eqv false .ptr) [T 15, .lit .nilptr], Mv 17 16, Mw 18 8 17 false, IG 19 (.eqv false .ptr) [T 18, .lit .nilptr] 17 false, I 20 .pick [T 17, Tt, T 19]])
 (.cond (T 20)
 (.seq (.region [I 6 .mv [Tf]])
 (.ret))
 (.skip)))
 (.seq (.region [Mv 21 7, Mv 22 8, Nc 23 22, I 24 (.loadn 4096) [T 23], Nc 25 21, J (.store 4096) [T 25, T 24]])
 (.seq (.region [I 6 .mv [Tt]])
 (.ret)))))⟩
abbrev n_entry_Good : Nat := 161
def c_entry_Good : AFn := ⟨84, [.tmp 2], .seq (.region [I 1 (.box 94 10) [T 0], I 2 .mv [Tf]])
 (.seq (.block 0 (.seq (.region [Fa 4 0 1, Ld 5 4, Bi 6 .lss (T 5) (N 0), Mv 7 6, IG 8 (.fieldAddr 1) [T 1] 7 false, IG 9 .load1 [T 8] 7 false, IG 10 (.fieldAddr 0) [T 1] 7 false, IG 11 .load1 [T 10] 7 false, IG 12 (.bin .leq) [T 9, T 11] 7 false, I 13 .pick [T 7, Tt, T 12], Mv 14 13, IG 15 (.fieldAddr 1) [T 1] 14 false, IG 16 .load1 [T 15] 14 false, IG 17 (.bin .gtr) [T 16, N 67108864] 14 false, I 18 .pick [T 14, Tt, T 17], Mv 3 18])
 (.cond (T 3)
 (.seq (.region [I 2 .mv [Tf]])
 (.ret))
 (.seq (.region [Fa 20 2 1, Ld 21 20, Bi 22 .lss (T 21) (N 0), Mv 23 22, IG 24 (.fieldAddr 3) [T 1] 23 false, IG 25 .load1 [T 24] 23 false, IG 26 (.bin .lss) [T 25, N 0] 23 false, I 27 .pick [T 23, Tt, T 26], Mv 28 27, IG 29 (.fieldAddr 2) [T 1] 28 false, IG 30 .load1 [T 29] 28 false, IG 31 (.bin .eql) [T 30, N 0] 28 false, Mw 32 31 28 false, IG 33 (.fieldAddr 3) [T 1] 32 true, IG 34 .load1 [T 33] 32 true, IG 35 (.bin .gtr) [T 34, N 0] 32 true, IG 36 .pick [T 32, T 35, Tf] 28 false, I 37 .pick [T 28, Tt, T 36], Mv 19 37])
 (.cond (T 19)
 (.seq (.region [I 2 .mv [Tf]])
 (.ret))
 (.seq (.region [Fa 39 2 1, Ld 40 39, Bi 41 .gtr (T 40) (N 0), Mv 42 41, IG 43 (.fieldAddr 3) [T 1] 42 true, IG 44 .load1 [T 43] 42 true, IG 45 (.fieldAddr 1) [T 1] 42 true, IG 46 .load1 [T 45] 42 true, IG 47 (.fieldAddr 0) [T 1] 42 true, IG 48 .load1 [T 47] 42 true, IG 49 (.bin .sub) [T 46, T 48] 42 true, IG 50 (.bin .sub) [N 4096, T 49] 42 true, IG 51 (.bin .gtr) [T 44, T 50] 42 true, I 52 .pick [T 42, T 51, Tf], Mv 38 52])
 (.cond (T 38)
 (.seq (.region [I 2 .mv [Tf]])
 (.ret))
 (.seq (.region [Fa 54 6 1, Ld 55 54, Bi 56 .andNot (T 55) (N 7), Bi 57 .neq (T 56) (N 0), Mv 58 57, IG 59 (.fieldAddr 5) [T 1] 58 false, IG 60 .load1 [T 59] 58 false, IG 61 (.fieldAddr 6) [T 1] 58 false, IG 62 .load1 [T 61] 58 false, IG 63 (.bin .andNot) [T 60, T 62] 58 false, IG 64 (.bin .neq) [T 63, N 0] 58 false, I 65 .pick [T 58, Tt, T 64], Mv 53 65])
 (.cond (T 53)
 (.seq (.region [I 2 .mv [Tf]])
 (.ret))
 (.skip))))))))))
 (.seq (.region [Fa 66 7 1, Ld 67 66, Bi 68 .geq (T 67) (N 0), Mv 69 68, IG 70 (.fieldAddr 7) [T 1] 69 true, IG 71 .load1 [T 70] 69 true, IG 72 (.bin .leq) [T 71, N 2] 69 true, I 73 .pick [T 69, T 72, Tf], Mv 74 73, IG 75 (.fieldAddr 8) [T 1] 74 true, IG 76 .load1 [T 75] 74 true, IG 77 (.bin .geq) [T 76, N 0] 74 true, I 78 .pick [T 74, T 77, Tf], Mv 79 78, IG 80 (.fieldAddr 8) [T 1] 79 true, IG 81 .load1 [T 80] 79 true, IG 82 (.bin .leq) [T 81, N 4] 79 true, I 83 .pick [T 79, T 82, Tf], Mv 2 83])
 (.ret)))⟩
abbrev n_vmap_within : Nat := 162
def c_vmap_within : AFn := ⟨21, [.tmp 4], .seq (.region [I 4 .mv [Tf]])
 (.seq (.region [Mv 5 0, Bi 6 .geq (T 5) (N 0), Mv 7 6, Mw 8 1 7 true, IG 9 (.bin .geq) [T 8, N 1] 7 true, I 10 .pick [T 7, T 9, Tf], Mv 11 10, Mw 12 1 11 true, IG 13 (.bin .leq) [T 12, N 4096] 11 true, I 14 .pick [T 11, T 13, Tf], Mv 15 14, Mw 16 0 15 true, Mw 17 1 15 true, IG 18 (.bin .sub) [N 67108864, T 17] 15 true, IG 19 (.bin .leq) [T 16, T 18] 15 true, I 20 .pick [T 15, T 19, Tf], Mv 4 20])
 (.ret))⟩
abbrev n_entry_Cut : Nat := 163
def c_entry_Cut : AFn := ⟨19, [.tmp 6, .tmp 7], .seq (.region [I 4 (.box 3 1) [T 1], I 5 (.box 3 1) [T 2], I 6 .mv [.lit .nilsl], I 7 .mv [.lit .nilsl]])
 (.seq (.draw [[⟨0, Mv 9 0, [], false⟩, ⟨1, Ld 10 4, [], false⟩, ⟨3, Ld 12 5, [], false⟩, ⟨2, Kc 11 [F 251, T 9, T 10], [(3, Ld 12 5)], false⟩, ⟨4, Kc 13 [F 251, T 11, T 12], [], false⟩, ⟨5, Mv 0 13, [], true⟩]])
 (.seq (.region [I 8 (.alloc 158 1 (.vals [.nilsl])) []])
 (.seq (.region [Mv 14 0, I 15 (.mkfunc 253 0) [T 4, T 5, T 8], Kc 16 [F 252, T 14, T 15], Mv 0 16])
 (.seq (.draw [[⟨0, Mv 17 0, [], false⟩, ⟨1, Ld 18 8, [], false⟩, ⟨2, Mv 6 17, [], false⟩, ⟨3, Mv 7 18, [], false⟩]])
 (.ret)))))⟩
abbrev n_entry_Space : Nat := 164
def c_entry_Space : AFn := ⟨37, [.tmp 6, .tmp 7], .seq (.region [Mn 6 0, I 7 .mv [Tf]])
 (.seq (.seq (.region [Mv 12 2, Bi 13 .lss (T 12) (N 1), Mv 14 13, Mw 15 2 14 false, IG 16 (.bin .gtr) [T 15, N 67108864] 14 false, I 17 .pick [T 14, Tt, T 16]])
 (.cond (T 17)
 (.seq (.region [Mn 6 0, I 7 .mv [Tf]])
 (.ret))
 (.skip)))
 (.seq (.seq (.region [Mv 19 0, Mv 20 1, I 21 (.max) [T 20, N 0], Mv 22 2, Kc 23 [F 254, T 19, T 21, T 22], Mv 18 23, Xt 24 0 18, Xt 25 1 18, Mv 8 24, Mv 9 25])
 (.seq (.region [Mv 26 9])
 (.cond (T 26)
 (.seq (.region [Mv 27 8, Mv 6 27, I 7 .mv [Tt]])
 (.ret))
 (.skip))))
 (.seq (.region [Mv 29 0, Mv 30 2, Kc 31 [F 254, T 29, N 0, T 30], Mv 28 31, Xt 32 0 28, Xt 33 1 28, Mv 10 32, Mv 11 33])
 (.seq (.seq (.region [Mv 34 11, I 35 (.un .not) [T 34]])
 (.cond (T 35)
 (.seq (.region [Mn 6 0, I 7 .mv [Tf]])
 (.ret))
 (.skip)))
 (.seq (.region [Mv 36 10, Mv 6 36, I 7 .mv [Tt]])
 (.ret))))))⟩
abbrev n_entry_Insert : Nat := 165
def c_entry_Insert : AFn := ⟨44, [.tmp 4, .tmp 5], .seq (.region [I 3 (.box 94 10) [T 1], I 4 .mv [.lit .nilsl], I 5 .mv [Tf]])
 (.seq (.region [Mv 8 0, Kc 9 [F 172, T 8], Mv 0 9])
 (.seq (.seq (.region [I 10 (.loadn 10) [T 3], Kc 11 [F 161, T 10], I 12 (.un .not) [T 11]])
 (.cond (T 12)
 (.seq (.region [Mv 13 0, Mv 4 13, I 5 .mv [Tf]])
 (.ret))
 (.skip)))
 (.seq (.region [Mv 15 0, Fa 16 0 3, Ld 17 16, Kc 18 [F 123, T 15, T 17], Mv 14 18, Xt 19 0 14, Xt 20 1 14, Mv 6 19, Mv 7 20])
 (.seq (.seq (.draw [[⟨0, Mv 21 7, [], false⟩, ⟨1, Mv 22 21, [], false⟩, ⟨2, Mw 23 6 22 false, [], false⟩, ⟨3, Mw 24 0 22 false, [], false⟩, ⟨4, IG 25 .lens [T 24] 22 false, [], false⟩, ⟨5, IG 26 (.bin .lss) [T 23, T 25] 22 false, [], false⟩, ⟨6, Mw 27 26 22 false, [], false⟩, ⟨7, Mw 28 0 27 true, [], false⟩, ⟨8, Mw 29 6 27 true, [], false⟩, ⟨9, IG 30 (.indexs 10) [T 28, T 29] 27 true, [], false⟩, ⟨10, IG 31 (.fieldAddr 0) [T 30] 27 true, [], false⟩, ⟨11, IG 32 .load1 [T 31] 27 true, [], false⟩, ⟨12, IG 33 (.fieldAddr 1) [T 3] 27 true, [], false⟩, ⟨13, IG 34 .load1 [T 33] 27 true, [], false⟩, ⟨14, IG 35 (.bin .lss) [T 32, T 34] 27 true, [], false⟩, ⟨15, IG 36 .pick [T 27, T 35, Tf] 22 false, [], false⟩, ⟨16, I 37 .pick [T 22, Tt, T 36], [], false⟩]])
 (.cond (T 37)
 (.seq (.region [Mv 38 0, Mv 4 38, I 5 .mv [Tf]])
 (.ret))
 (.skip)))
 (.seq (.region [Mv 39 0, Mv 40 6, I 41 (.loadn 10) [T 3], I 42 (.bslice 94 10 1 (.vals [Zi, Zi, Zi, Zi, (.bool false), Zi, Zi, Zi, Zi, (.bool false)]) [0]) [T 41], Kc 43 [F 255, T 39, T 40, T 42], Mv 4 43, I 5 .mv [Tt]])
 (.ret))))))⟩
abbrev n_entry_Merge : Nat := 166
def c_entry_Merge_L0 : ACode :=
 .seq (.region [Bi 10 .lss (T 9) (T 8)])
 (.seq (.cond (T 10)
 (.skip)
 (.exit 0))
 (.seq (.block 1 (.seq (.region [I 11 (.indexs 10) [T 7, T 9], I 12 (.loadn 10) [T 11], I 5 (.alloc 94 10 (.vals [Zi, Zi, Zi, Zi, (.bool false), Zi, Zi, Zi, Zi, (.bool false)])) [], J (.store 10) [T 5, T 12]])
 (.seq (.region [Mv 13 3, I 14 .lens [T 13], Bi 15 .sub (T 14) (N 1), Mv 6 15])
 (.seq (.draw [[⟨0, Mv 16 6, [], false⟩, ⟨1, Bi 17 .geq (T 16) (N 0), [], false⟩, ⟨2, Mv 18 17, [], false⟩, ⟨3, Mw 19 3 18 true, [], false⟩, ⟨4, Mw 20 6 18 true, [], false⟩, ⟨5, IG 21 (.indexs 10) [T 19, T 20] 18 true, [], false⟩, ⟨6, IG 22 (.loadn 10) [T 21] 18 true, [], false⟩, ⟨7, IG 23 (.loadn 10) [T 5] 18 true, [], false⟩, ⟨9, IG 25 (.loadn 10) [T 5] 18 true, [], false⟩, ⟨8, IG 24 .callv [F 256, T 22, T 23] 18 true, [(9, IG 25 (.loadn 10) [T 5] 18 true)], false⟩, ⟨10, IG 26 (.eqv false (.flat [.int, .int, .int, .int, .bool, .int, .int, .int, .int, .bool])) [T 24, T 25] 18 true, [], false⟩, ⟨11, I 27 .pick [T 18, T 26, Tf], [], false⟩]])
 (.cond (T 27)
 (.region [Mv 28 3, Mv 29 6, Fa 30 1 5, Ld 31 30, I 32 (.indexs 10) [T 28, T 29], Fa 33 1 32, J (.store 1) [T 33, T 31]])
 (.region [Mv 34 3, I 35 (.loadn 10) [T 5], I 36 (.bslice 94 10 1 (.vals [Zi, Zi, Zi, Zi, (.bool false), Zi, Zi, Zi, Zi, (.bool false)]) [0]) [T 35], I 37 (.append 94 10 80 (.vals [Zi, Zi, Zi, Zi, (.bool false), Zi, Zi, Zi, Zi, (.bool false)])) [T 34, T 36], Mv 3 37]))))))
 (.region [Bi 38 .add (T 9) (N 1), Mv 9 38])))
def c_entry_Merge : AFn := ⟨40, [.tmp 2], .seq (.region [I 2 .mv [.lit .nilsl]])
 (.seq (.region [I 3 .mv [.lit .nilsl]])
 (.seq (.seq (.region [Mv 7 0, I 8 .lens [T 7], Mn 9 0])
 (.block 0 (.loop c_entry_Merge_L0)))
 (.seq (.region [Mv 39 3, Mv 2 39])
 (.ret))))⟩
abbrev n_kern_Kernel_reach : Nat := 170
def c_kern_Kernel_reach : AFn := ⟨93, [.tmp 8, .tmp 9], .seq (.region [Mn 8 0, I 9 .mv [Tf]])
 (.seq (.region [Mv 18 1, Nc 19 18, Fa 20 0 19, Ld 21 20, Mv 22 2, I 23 (.build (.agg [Zi, Zi]) [(0, 1), (1, 1)]) [T 21, T 22], I 10 (.alloc 207 2 (.vals [Zi, Zi])) [], J (.store 2) [T 10, T 23]])
 (.seq (.seq (.draw [[⟨0, Mv 25 0, [], false⟩, ⟨1, Nc 26 25, [], false⟩, ⟨2, Fa 27 8 26, [], false⟩, ⟨3, Ld 28 27, [], false⟩, ⟨4, I 29 (.loadn 2) [T 10], [], false⟩, ⟨5, Kc 30 [F 257, T 28, T 29], [], false⟩, ⟨6, Mv 24 30, [], false⟩, ⟨7, Xt 31 0 24, [], false⟩, ⟨8, Xt 32 1 24, [], false⟩, ⟨9, I 11 (.alloc 204 2 (.vals [Zi, Zi])) [], [(3, Ld 28 27), (4, I 29 (.loadn 2) [T 10])], false⟩, ⟨10, J (.store 2) [T 11, T 31], [], false⟩, ⟨11, Mv 12 32, [], false⟩]])
 (.seq (.region [Mv 33 12, Mv 34 33, IG 35 (.loadn 2) [T 11] 34 true, Mw 36 3 34 true, IG 37 .callv [F 258, T 35, T 36, Tt] 34 true, I 38 .pick [T 34, T 37, Tf], Mv 39 38, Mw 40 3 39 true, IG 41 (.bin .neq) [T 40, N 2] 39 true, Mw 42 41 39 true, IG 43 (.fieldAddr 0) [T 11] 42 false, IG 44 .load1 [T 43] 42 false, IG 45 (.bin .and) [T 44, N 128] 42 false, IG 46 (.bin .gtr) [T 45, N 0] 42 false, IG 47 .pick [T 42, Tt, T 46] 39 true, I 48 .pick [T 39, T 47, Tf]])
 (.cond (T 48)
 (.seq (.region [Fa 49 1 11, Ld 50 49, Mv 8 50, I 9 .mv [Tt]])
 (.ret))
 (.skip))))
 (.seq (.draw [[⟨0, Mv 52 0, [], false⟩, ⟨1, Nc 53 52, [], false⟩, ⟨2, Fa 54 0 53, [], false⟩, ⟨3, Ld 55 54, [], false⟩, ⟨4, Mv 56 1, [], false⟩, ⟨5, Nc 57 56, [], false⟩, ⟨6, Fa 58 2 57, [], false⟩, ⟨7, Ld 59 58, [], false⟩, ⟨9, Mv 61 2, [], false⟩, ⟨10, I 62 (.bin .shl) [T 61, .lit (.int .u64 12)], [], false⟩, ⟨11, Mv 63 3, [], false⟩, ⟨8, Kc 60 [F 260, T 59], [(3, Ld 55 54)], false⟩, ⟨12, Kc 64 [F 259, T 55, T 60, T 62, T 63, Tt], [], false⟩, ⟨13, Mv 51 64, [], false⟩, ⟨14, Xt 65 0 51, [], false⟩, ⟨15, Xt 66 1 51, [], false⟩, ⟨16, Xt 67 2 51, [], false⟩, ⟨17, Mv 13 65, [], false⟩, ⟨18, Mv 14 66, [], false⟩, ⟨19, Mv 15 67, [], false⟩]])
 (.seq (.seq (.region [Mv 68 13, Bi 69 .neq (T 68) (N 0)])
 (.cond (T 69)
 (.seq (.region [Mn 8 (-1), I 9 .mv [Tf]])
 (.ret))
 (.skip)))
 (.seq (.seq (.draw [[⟨0, Mv 71 0, [], false⟩, ⟨1, Nc 72 71, [], false⟩, ⟨2, Fa 73 0 72, [], false⟩, ⟨3, Ld 74 73, [], false⟩, ⟨4, Mv 75 1, [], false⟩, ⟨5, Nc 76 75, [], false⟩, ⟨6, Fa 77 2 76, [], false⟩, ⟨7, Ld 78 77, [], false⟩, ⟨9, Mv 80 2, [], false⟩, ⟨8, Kc 79 [F 260, T 78], [(3, Ld 74 73)], false⟩, ⟨10, Kc 81 [F 261, T 74, T 79, T 80], [], false⟩, ⟨11, Mv 70 81, [], false⟩, ⟨12, Xt 82 0 70, [], false⟩, ⟨13, Xt 83 1 70, [], false⟩, ⟨14, I 16 (.alloc 204 2 (.vals [Zi, Zi])) [], [(3, Ld 74 73), (7, Ld 78 77)], false⟩, ⟨15, J (.store 2) [T 16, T 82], [], false⟩, ⟨16, Mv 17 83, [], false⟩]])
 (.seq (.region [Mv 84 17])
 (.cond (T 84)
 (.draw [[⟨0, Mv 85 0, [], false⟩, ⟨1, Nc 86 85, [], false⟩, ⟨2, Fa 87 8 86, [], false⟩, ⟨3, Ld 88 87, [], false⟩, ⟨4, I 89 (.loadn 2) [T 10], [], false⟩, ⟨5, I 90 (.loadn 2) [T 16], [], false⟩, ⟨6, Kc 91 [F 262, T 88, T 89, T 90], [], false⟩]])
 (.skip))))
 (.seq (.region [Mv 92 14, Mv 8 92, I 9 .mv [Tt]])
 (.ret)))))))⟩
abbrev n_kern_Kernel_fault : Nat := 171
def c_kern_Kernel_fault : AFn := ⟨98, [.tmp 8], .seq (.region [Mn 8 0])
 (.seq (.region [Mv 15 1, Nc 16 15, Fa 17 1 16, Ld 18 17, Mv 19 2, Kc 20 [F 55, T 18, T 19], Mv 14 20, Xt 21 0 14, Xt 22 1 14, I 9 (.alloc 94 10 (.vals [Zi, Zi, Zi, Zi, (.bool false), Zi, Zi, Zi, Zi, (.bool false)])) [], J (.store 10) [T 9, T 21], Mv 10 22])
 (.seq (.region [Mn 11 0])
 (.seq (.region [Mn 12 0])
 (.seq (.block 0 (.seq (.region [Fa 33 4 9, Ld 34 33, Mv 35 34, Mw 36 3 35 true, I 37 .pick [T 35, T 36, Tf], Mv 32 37])
 (.cond (T 32)
 (.region [Mv 39 0, Fa 40 2 9, Ld 41 40, Fa 42 3 9, Ld 43 42, Mv 44 2, Bi 45 .add (T 43) (T 44), Fa 46 0 9, Ld 47 46, Bi 48 .sub (T 45) (T 47), Kc 49 [F 78, T 39, T 41, T 48], Mv 38 49, Xt 50 0 38, Xt 51 1 38, Mv 11 50, Mv 12 51])
 (.seq (.region [Fa 53 4 9, Ld 54 53, Mv 52 54])
 (.cond (T 52)
 (.region [Mv 56 0, Fa 57 2 9, Ld 58 57, Fa 59 3 9, Ld 60 59, Mv 61 2, Bi 62 .add (T 60) (T 61), Fa 63 0 9, Ld 64 63, Bi 65 .sub (T 62) (T 64), Kc 66 [F 76, T 56, T 58, T 65], Mv 55 66, Xt 67 0 55, Xt 68 1 55, Xt 69 2 55, Mv 11 68, Mv 12 69])
 (.region [Mv 24 0, Mv 25 1, I 26 (.loadn 10) [T 9], Mv 27 2, Mv 28 3, Kc 29 [F 263, T 24, T 25, T 26, T 27, T 28], Mv 23 29, Xt 30 0 23, Xt 31 1 23, Mv 11 30, Mv 12 31]))))))
 (.seq (.seq (.region [Mv 70 12, Bi 71 .neq (T 70) (N 0)])
 (.cond (T 71)
 (.seq (.region [Mv 72 12, Mv 8 72])
 (.ret))
 (.skip)))
 (.seq (.region [Fa 73 5 9, Ld 74 73, Mv 13 74])
 (.seq (.seq (.region [Mv 75 3, I 76 (.un .not) [T 75]])
 (.cond (T 76)
 (.region [Mv 77 13, Bi 78 .andNot (T 77) (N 2), Mv 13 78])
 (.skip)))
 (.seq (.draw [[⟨0, Mv 79 0, [], false⟩, ⟨1, Nc 80 79, [], false⟩, ⟨2, Fa 81 8 80, [], false⟩, ⟨3, Ld 82 81, [], false⟩, ⟨4, Mv 83 1, [], false⟩, ⟨5, Nc 84 83, [], false⟩, ⟨6, Fa 85 0 84, [], false⟩, ⟨7, Ld 86 85, [], false⟩, ⟨8, Mv 87 2, [], false⟩, ⟨9, I 88 (.build (.agg [Zi, Zi]) [(0, 1), (1, 1)]) [T 86, T 87], [], false⟩, ⟨10, Kc 89 [F 143, T 82, T 88], [], false⟩]])
 (.seq (.region [Mv 90 1, Nc 91 90, Fa 92 2 91, Ld 93 92, Mv 94 2, Mv 95 11, Mv 96 13, Kc 97 [F 264, T 93, T 94, T 95, T 96], Mv 8 97])
 (.ret))))))))))⟩
abbrev n_slices_Clone_api_Entry_api_Entry : Nat := 172
def c_slices_Clone_api_Entry_api_Entry : AFn := ⟨8, [.tmp 2], .seq (.region [I 2 .mv [.lit .nilsl]])
 (.seq (.seq (.region [Mv 3 0, I 4 (.eqv false .slice) [T 3, .lit .nilsl]])
 (.cond (T 4)
 (.seq (.region [I 2 .mv [.lit .nilsl]])
 (.ret))
 (.skip)))
 (.seq (.region [I 5 (.bslice 94 10 0 (.vals [Zi, Zi, Zi, Zi, (.bool false), Zi, Zi, Zi, Zi, (.bool false)]) []) [], Mv 6 0, I 7 (.append 94 10 80 (.vals [Zi, Zi, Zi, Zi, (.bool false), Zi, Zi, Zi, Zi, (.bool false)])) [T 5, T 6], Mv 2 7])
 (.ret)))⟩
abbrev n_kern_Kernel_own : Nat := 174
def c_kern_Kernel_own_L0 : ACode :=
 .seq (.seq (.region [Mv 37 10, Mv 38 8, Nc 39 38, I 40 (.loadn 6) [T 39], Kc 41 [F 176, T 40], Bi 42 .lss (T 37) (T 41)])
 (.cond (T 42)
 (.skip)
 (.exit 0)))
 (.seq (.block 1 (.draw [[⟨0, Mv 45 9, [], false⟩, ⟨1, Mv 46 45, [], false⟩, ⟨2, Mw 47 0 46 true, [], false⟩, ⟨3, IG 48 .nilCheck [T 47] 46 true, [], false⟩, ⟨4, IG 49 (.fieldAddr 6) [T 48] 46 true, [], false⟩, ⟨5, IG 50 .load1 [T 49] 46 true, [], false⟩, ⟨6, Mw 51 8 46 true, [], false⟩, ⟨7, IG 52 .nilCheck [T 51] 46 true, [], false⟩, ⟨8, IG 53 (.fieldAddr 2) [T 52] 46 true, [], false⟩, ⟨9, IG 54 .load1 [T 53] 46 true, [], false⟩, ⟨10, Mw 55 10 46 true, [], false⟩, ⟨11, IG 56 .callv [F 267, T 50, T 54, T 55] 46 true, [], false⟩, ⟨12, IG 57 (.bin .eql) [T 56, N 1] 46 true, [], false⟩, ⟨13, I 58 .pick [T 46, T 57, Tf], [], false⟩, ⟨14, Mv 9 58, [], true⟩]]))
 (.region [Mv 43 10, Bi 44 .add (T 43) (N 1), Mv 10 44]))
def c_kern_Kernel_own_L1 : ACode :=
 .seq (.region [Bi 88 .lss (T 87) (T 86)])
 (.seq (.cond (T 88)
 (.skip)
 (.exit 2))
 (.seq (.block 3 (.seq (.region [I 89 (.indexs 1) [T 85, T 87], Ld 90 89, Mv 15 90])
 (.region [Mv 91 0, Nc 92 91, Fa 93 5 92, Ld 94 93, Mv 95 15, Kc 96 [F 269, T 94, T 95, N 1]])))
 (.region [Bi 97 .add (T 87) (N 1), Mv 87 97])))
def c_kern_Kernel_own : AFn := ⟨114, [.tmp 6, .tmp 7], .seq (.region [I 6 .mv [.lit .nilptr], Mn 7 0])
 (.seq (.region [Mv 16 1, Mv 17 2, Kc 18 [F 125, T 16, T 17], Mv 8 18])
 (.seq (.seq (.region [Mv 19 8, I 20 (.eqv false .ptr) [T 19, .lit .nilptr]])
 (.cond (T 20)
 (.seq (.region [Mv 21 0, Mv 22 1, Mv 23 2, Kc 24 [F 266, T 21, T 22, T 23], Xt 25 0 24, Xt 26 1 24, Mv 6 25, Mv 7 26])
 (.ret))
 (.skip)))
 (.seq (.seq (.region [Mv 27 8, Nc 28 27, Fa 29 4 28, Ld 30 29, I 31 (.un .not) [T 30]])
 (.cond (T 31)
 (.seq (.region [Mv 32 8, Mv 6 32, Mn 7 0])
 (.ret))
 (.skip)))
 (.seq (.region [I 9 .mv [Tt]])
 (.seq (.seq (.region [Mv 33 8, Nc 34 33, Fa 35 3 34, Ld 36 35, Mv 10 36])
 (.block 0 (.loop c_kern_Kernel_own_L0)))
 (.seq (.seq (.region [Mv 59 9, I 60 (.un .not) [T 59]])
 (.cond (T 60)
 (.seq (.draw [[⟨0, Mv 62 0, [], false⟩, ⟨1, Nc 63 62, [], false⟩, ⟨2, Fa 64 6 63, [], false⟩, ⟨3, Ld 65 64, [], false⟩, ⟨4, Mv 66 8, [], false⟩, ⟨5, Nc 67 66, [], false⟩, ⟨6, Fa 68 2 67, [], false⟩, ⟨7, Ld 69 68, [], false⟩, ⟨8, Mv 70 8, [], false⟩, ⟨9, Nc 71 70, [], false⟩, ⟨10, Fa 72 3 71, [], false⟩, ⟨11, Ld 73 72, [], false⟩, ⟨12, Mv 74 8, [], false⟩, ⟨13, Nc 75 74, [], false⟩, ⟨14, I 76 (.loadn 6) [T 75], [], false⟩, ⟨15, Kc 77 [F 176, T 76], [(3, Ld 65 64), (7, Ld 69 68), (11, Ld 73 72)], false⟩, ⟨16, Kc 78 [F 268, T 65, T 69, T 73, T 77], [], false⟩, ⟨17, Mv 61 78, [], false⟩, ⟨18, Xt 79 0 61, [], false⟩, ⟨19, Xt 80 1 61, [], false⟩, ⟨20, Xt 81 2 61, [], false⟩, ⟨21, Mv 11 79, [], false⟩, ⟨22, Mv 12 80, [], false⟩, ⟨23, Mv 13 81, [], false⟩]])
 (.seq (.seq (.region [Mv 82 13, Bi 83 .neq (T 82) (N 0)])
 (.cond (T 83)
 (.seq (.region [Mv 84 13, I 6 .mv [.lit .nilptr], Mv 7 84])
 (.ret))
 (.skip)))
 (.seq (.seq (.region [Mv 85 12, I 86 .lens [T 85], Mn 87 0])
 (.block 2 (.loop c_kern_Kernel_own_L1)))
 (.seq (.region [Mv 98 0, Mv 99 8, Nc 100 99, I 101 (.loadn 6) [T 100], Kc 102 [F 95, T 98, T 101]])
 (.region [Mv 103 8, Mv 104 8, Mv 105 11, Nc 106 103, Fa 107 2 106, J (.store 1) [T 107, T 105], Nc 108 104, Fa 109 3 108, J (.store 1) [T 109, N 0]])))))
 (.skip)))
 (.seq (.region [Mv 110 8, Nc 111 110, Fa 112 4 111, J (.store 1) [T 112, Tf]])
 (.seq (.region [Mv 113 8, Mv 6 113, Mn 7 0])
 (.ret)))))))))⟩
abbrev n_pmap_Map_made : Nat := 178
def c_pmap_Map_made : AFn := ⟨12, [.tmp 2], .seq (.region [I 2 .mv [Tf]])
 (.seq (.region [Mv 3 0, I 4 (.eqv true .ptr) [T 3, .lit .nilptr], Mv 5 4, Mw 6 0 5 true, IG 7 .nilCheck [T 6] 5 true, IG 8 (.fieldAddr 4) [T 7] 5 true, IG 9 .load1 [T 8] 5 true, IG 10 (.bin .gtr) [T 9, N 0] 5 true, I 11 .pick [T 5, T 10, Tf], Mv 2 11])
 (.ret))⟩
abbrev n_pmap_Map_below : Nat := 179
def c_pmap_Map_below : AFn := ⟨38, [.tmp 6, .tmp 7], .seq (.region [Mn 6 0, I 7 .mv [Tf]])
 (.seq (.region [Mv 12 0, Nc 13 12, Fa 14 0 13, Ld 15 14, Mv 16 1, Mv 17 2, Kc 18 [F 273, T 15, T 16, T 17], Mv 11 18, Xt 19 0 11, Xt 20 1 11, Mv 8 19, Mv 9 20])
 (.seq (.region [Mv 21 8, Kc 22 [F 274, T 21], I 10 (.alloc 204 2 (.vals [Zi, Zi])) [], J (.store 2) [T 10, T 22]])
 (.seq (.draw [[⟨0, Fa 23 1 10, [], false⟩, ⟨1, Ld 24 23, [], false⟩, ⟨2, I 25 (.loadn 2) [T 10], [], false⟩, ⟨3, Kc 26 [F 275, T 25], [(1, Ld 24 23)], false⟩, ⟨4, Bi 27 .eql (T 26) (N 1), [], false⟩, ⟨5, Mv 28 27, [], false⟩, ⟨6, IG 29 (.fieldAddr 1) [T 10] 28 true, [], false⟩, ⟨7, IG 30 .load1 [T 29] 28 true, [], false⟩, ⟨8, Mw 31 0 28 true, [], false⟩, ⟨9, IG 32 .nilCheck [T 31] 28 true, [], false⟩, ⟨10, IG 33 (.fieldAddr 0) [T 32] 28 true, [], false⟩, ⟨11, IG 34 .load1 [T 33] 28 true, [], false⟩, ⟨12, IG 35 .callv [F 44, T 34] 28 true, [(1, Ld 24 23), (7, IG 30 .load1 [T 29] 28 true)], false⟩, ⟨13, IG 36 (.bin .lss) [T 30, T 35] 28 true, [], false⟩, ⟨14, I 37 .pick [T 28, T 36, Tf], [], false⟩, ⟨15, Mv 6 24, [], false⟩, ⟨16, Mv 7 37, [], false⟩]])
 (.ret))))⟩
abbrev n_pmap_Map_give : Nat := 180
def c_pmap_Map_give : AFn := ⟨35, [], .seq (.region [Mv 9 0, Mv 10 1, Mv 11 2, Kc 12 [F 179, T 9, T 10, T 11], Mv 8 12, Xt 13 0 8, Xt 14 1 8, Mv 6 13, Mv 7 14])
 (.seq (.region [Mv 15 0, Nc 16 15, Fa 17 1 16, Ld 18 17, Mv 19 6, Kc 20 [F 117, T 18, T 19]])
 (.seq (.region [Mv 21 0, Nc 22 21, Fa 23 0 22, Ld 24 23, Mv 25 1, Mv 26 2, Kc 27 [F 276, T 24, T 25, T 26, .lit (.int .u64 0)]])
 (.region [Mv 28 0, Nc 29 28, Fa 30 4 29, Ld 31 30, Bi 32 .sub (T 31) (N 1), Nc 33 28, Fa 34 4 33, J (.store 1) [T 34, T 32]])))⟩
abbrev n_tlb_Table_drop : Nat := 181
def c_tlb_Table_drop_L0 : ACode :=
 .seq (.region [Bi 22 .lss (T 21) (T 20)])
 (.seq (.cond (T 22)
 (.skip)
 (.exit 0))
 (.seq (.block 1 (.seq (.region [I 23 (.indexs 2) [T 19, T 21], I 24 (.loadn 2) [T 23], I 8 (.alloc 207 2 (.vals [Zi, Zi])) [], J (.store 2) [T 8, T 24]])
 (.seq (.region [Mv 25 1, I 26 (.loadn 2) [T 8], Kc 27 [T 25, T 26]])
 (.cond (T 27)
 (.draw [[⟨0, Mv 28 0, [], false⟩, ⟨1, Nc 29 28, [], false⟩, ⟨2, Fa 30 2 29, [], false⟩, ⟨3, Ld 31 30, [], false⟩, ⟨4, I 32 (.loadn 2) [T 8], [], false⟩, ⟨5, J (.delete (.flat [.int, .int])) [T 31, T 32], [], false⟩]])
 (.region [Mv 33 6, I 34 (.loadn 2) [T 8], I 35 (.bslice 207 2 1 (.vals [Zi, Zi]) [0]) [T 34], I 36 (.append 207 2 16 (.vals [Zi, Zi])) [T 33, T 35], Mv 6 36])))))
 (.region [Bi 37 .add (T 21) (N 1), Mv 21 37])))
def c_tlb_Table_drop : AFn := ⟨46, [.tmp 4], .seq (.region [Mn 4 0])
 (.seq (.seq (.region [Mv 9 0, I 10 (.eqv false .ptr) [T 9, .lit .nilptr]])
 (.cond (T 10)
 (.seq (.region [Mn 4 0])
 (.ret))
 (.skip)))
 (.seq (.region [Mv 11 0, Nc 12 11, Fa 13 1 12, Ld 14 13, I 15 .lens [T 14], Mv 5 15])
 (.seq (.region [I 6 .mv [.lit .nilsl]])
 (.seq (.seq (.region [Mv 16 0, Nc 17 16, Fa 18 1 17, Ld 19 18, I 20 .lens [T 19], Mn 21 0])
 (.block 0 (.loop c_tlb_Table_drop_L0)))
 (.seq (.region [Mv 38 0, Mv 39 6, Nc 40 38, Fa 41 1 40, J (.store 1) [T 41, T 39]])
 (.seq (.region [Mv 42 5, Mv 43 6, I 44 .lens [T 43], Bi 45 .sub (T 42) (T 44), Mv 4 45])
 (.ret)))))))⟩
abbrev n_amap_Pool_made : Nat := 184
def c_amap_Pool_made : AFn := ⟨11, [.tmp 2], .seq (.region [I 2 .mv [Tf]])
 (.seq (.region [Mv 3 0, I 4 (.eqv true .ptr) [T 3, .lit .nilptr], Mv 5 4, Mw 6 0 5 true, IG 7 .nilCheck [T 6] 5 true, IG 8 (.fieldAddr 1) [T 7] 5 true, IG 9 .load1 [T 8] 5 true, I 10 .pick [T 5, T 9, Tf], Mv 2 10])
 (.ret))⟩
abbrev n_spread_New : Nat := 185
def c_spread_New : AFn := ⟨16, [.tmp 2], .seq (.region [I 2 .mv [.lit .nilptr]])
 (.seq (.seq (.region [Mv 4 0, Bi 5 .lss (T 4) (N 0), Mv 6 5, Mw 7 0 6 false, IG 8 (.bin .gtr) [T 7, N 4096] 6 false, I 9 .pick [T 6, Tt, T 8]])
 (.cond (T 9)
 (.seq (.region [I 2 .mv [.lit .nilptr]])
 (.ret))
 (.skip)))
 (.seq (.region [I 10 (.build (.agg [.nilsl, Zi, (.bool false)]) [(2, 1)]) [Tt], I 11 (.box 330 3) [T 10], Mv 3 11])
 (.seq (.region [Mv 12 3, Mv 13 0, Kc 14 [F 277, T 12, T 13]])
 (.seq (.region [Mv 15 3, Mv 2 15])
 (.ret)))))⟩
abbrev n_spread_Counts_Add : Nat := 186
def c_spread_Counts_Add_L1 : ACode :=
 .seq (.seq (.region [Ld 53 7, Bi 54 .neq (T 53) (N 0), Mv 55 54, IG 56 .load1 [T 7] 55 true, IG 57 (.fieldAddr 2) [T 11] 55 true, IG 58 .load1 [T 57] 55 true, IG 59 (.un .neg) [T 58] 55 true, IG 60 (.bin .eql) [T 56, T 59] 55 true, I 61 .pick [T 55, T 60, Tf], Mv 62 61, Mw 63 12 62 true, IG 64 (.fieldAddr 1) [T 11] 62 true, IG 65 .load1 [T 64] 62 true, IG 66 (.bin .lss) [T 63, T 65] 62 true, I 67 .pick [T 62, T 66, Tf]])
 (.cond (T 67)
 (.skip)
 (.exit 2)))
 (.seq (.block 3 (.region [Ld 70 10, Mv 71 12, I 72 (.bslice 3 1 1 (.vals [Zi]) [0]) [T 71], I 73 (.append 3 1 8 (.vals [Zi])) [T 70, T 72], J (.store 1) [T 10, T 73]]))
 (.region [Mv 68 12, Bi 69 .add (T 68) (N 1), Mv 12 69]))
def c_spread_Counts_Add_A0 : ACode :=
 .region [I 11 (.alloc 323 3 (.vals [Zi, Zi, Zi])) [], J (.store 3) [T 11, T 38]]
def c_spread_Counts_Add_B0 : ACode :=
 .block 1 (.seq (.seq (.region [Ld 39 7, Fa 40 2 11, Ld 41 40, I 42 (.un .neg) [T 41], Bi 43 .lss (T 39) (T 42), Mv 44 43, IG 45 .load1 [T 7] 44 false, IG 46 (.fieldAddr 2) [T 11] 44 false, IG 47 .load1 [T 46] 44 false, IG 48 (.bin .sub) [N 1000000, T 47] 44 false, IG 49 (.bin .gtr) [T 45, T 48] 44 false, I 50 .pick [T 44, Tt, T 49]])
 (.cond (T 50)
 (.seq (.region [J (.store 1) [T 8, .lit .nilsl], J (.store 1) [T 9, N 2]])
 (.ret))
 (.skip)))
 (.seq (.region [Fa 51 0 11, Ld 52 51, Mv 12 52])
 (.block 2 (.loop c_spread_Counts_Add_L1))))
def c_spread_Counts_Add_L2 : ACode :=
 .seq (.region [Bi 87 .lss (T 86) (T 85)])
 (.seq (.cond (T 87)
 (.skip)
 (.exit 4))
 (.seq (.block 5 (.seq (.region [Mv 88 86, I 89 (.indexs 3) [T 84, T 86], I 90 (.loadn 3) [T 89], I 15 (.alloc 323 3 (.vals [Zi, Zi, Zi])) [], Mv 14 88, J (.store 3) [T 15, T 90]])
 (.seq (.region [Fa 91 0 15, Ld 92 91, Mv 93 1, Bi 94 .geq (T 92) (T 93), Mv 95 94, IG 96 (.fieldAddr 1) [T 15] 95 true, IG 97 .load1 [T 96] 95 true, Mw 98 2 95 true, IG 99 (.bin .leq) [T 97, T 98] 95 true, I 100 .pick [T 95, T 99, Tf]])
 (.cond (T 100)
 (.draw [[⟨0, Mv 101 13, [], false⟩, ⟨1, Mv 102 14, [], false⟩, ⟨2, I 103 (.indexs 3) [T 101, T 102], [], false⟩, ⟨3, Fa 104 2 103, [], false⟩, ⟨4, Ld 105 104, [], false⟩, ⟨5, Ld 106 7, [], false⟩, ⟨6, Bi 107 .add (T 105) (T 106), [], false⟩, ⟨7, I 108 (.indexs 3) [T 101, T 102], [], false⟩, ⟨8, Fa 109 2 108, [], false⟩, ⟨9, J (.store 1) [T 109, T 107], [], false⟩]])
 (.skip)))))
 (.region [Bi 110 .add (T 86) (N 1), Mv 86 110])))
def c_spread_Counts_Add : AFn := ⟨117, [.cell 8 .load1, .cell 9 .load1], .seq (.region [I 7 (.box 3 1) [T 3], I 8 (.alloc 34 1 (.vals [.nilsl])) [], I 9 (.alloc 24 1 (.vals [Zi])) []])
 (.seq (.seq (.region [Mv 16 0, Kc 17 [F 278, T 16], I 18 (.un .not) [T 17]])
 (.cond (T 18)
 (.seq (.region [J (.store 1) [T 8, .lit .nilsl], J (.store 1) [T 9, N 1]])
 (.ret))
 (.skip)))
 (.seq (.seq (.region [Mv 19 1, Bi 20 .lss (T 19) (N 0), Mv 21 20, Mw 22 2 21 false, Mw 23 0 21 false, IG 24 .nilCheck [T 23] 21 false, IG 25 (.fieldAddr 1) [T 24] 21 false, IG 26 .load1 [T 25] 21 false, IG 27 (.bin .gtr) [T 22, T 26] 21 false, I 28 .pick [T 21, Tt, T 27], Mv 29 28, Mw 30 1 29 false, Mw 31 2 29 false, IG 32 (.bin .gtr) [T 30, T 31] 29 false, I 33 .pick [T 29, Tt, T 32]])
 (.cond (T 33)
 (.seq (.region [J (.store 1) [T 8, .lit .nilsl], J (.store 1) [T 9, N 2]])
 (.ret))
 (.skip)))
 (.seq (.region [I 10 (.alloc 34 1 (.vals [.nilsl])) []])
 (.seq (.seq (.region [Mv 34 0, Mv 35 1, Mv 36 2, Kc 37 [F 279, T 34, T 35, T 36]])
 (.block 0 (.rfun (T 37) [38] c_spread_Counts_Add_A0 c_spread_Counts_Add_B0)))
 (.seq (.region [Mv 74 0, Nc 75 74, Fa 76 0 75, Ld 77 76, Mv 78 1, Kc 79 [F 280, T 77, T 78], Mv 80 2, Kc 81 [F 280, T 79, T 80], Mv 13 81])
 (.seq (.region [Mv 82 13, Kc 83 [F 281, T 82], Mv 13 83])
 (.seq (.seq (.region [Mv 84 13, I 85 .lens [T 84], Mn 86 0])
 (.block 4 (.loop c_spread_Counts_Add_L2)))
 (.seq (.region [Mv 111 0, Mv 112 13, Kc 113 [F 282, T 112], Nc 114 111, Fa 115 0 114, J (.store 1) [T 115, T 113]])
 (.seq (.region [Ld 116 10, J (.store 1) [T 8, T 116], J (.store 1) [T 9, N 0]])
 (.ret))))))))))⟩
abbrev n_slices_Index_amap_one_amap_one : Nat := 187
def c_slices_Index_amap_one_amap_one_L0 : ACode :=
 .seq (.region [Bi 9 .lss (T 8) (T 7)])
 (.seq (.cond (T 9)
 (.skip)
 (.exit 0))
 (.seq (.block 1 (.seq (.region [Mv 10 8, Mv 5 10])
 (.seq (.region [Mv 11 1, Mv 12 0, Mv 13 5, I 14 (.indexs 1) [T 12, T 13], Ld 15 14, I 16 (.eqv false .ptr) [T 11, T 15]])
 (.cond (T 16)
 (.seq (.region [Mv 17 5, Mv 4 17])
 (.ret))
 (.skip)))))
 (.region [Bi 18 .add (T 8) (N 1), Mv 8 18])))
def c_slices_Index_amap_one_amap_one : AFn := ⟨19, [.tmp 4], .seq (.region [Mn 4 0])
 (.seq (.seq (.region [Mv 6 0, I 7 .lens [T 6], Mn 8 0])
 (.block 0 (.loop c_slices_Index_amap_one_amap_one_L0)))
 (.seq (.region [Mn 4 (-1)])
 (.ret)))⟩
abbrev n_amap_Pool_Set : Nat := 189
def c_amap_Pool_Set : AFn := ⟨48, [.tmp 8, .tmp 9], .seq (.region [Mn 8 0, Mn 9 0])
 (.seq (.region [Mv 14 0, Mv 15 1, Kc 16 [F 270, T 14, T 15], Mv 13 16, Xt 17 0 13, Xt 18 1 13, Mv 10 17, Mv 11 18])
 (.seq (.block 0 (.seq (.region [Mv 20 11, Bi 21 .neq (T 20) (N 0), Mv 19 21])
 (.cond (T 19)
 (.seq (.region [Mv 22 11, Mn 8 0, Mv 9 22])
 (.ret))
 (.seq (.region [Mv 24 0, Mv 25 1, Mv 26 2, Kc 27 [F 267, T 24, T 25, T 26], Bi 28 .eql (T 27) (N 0), Mv 29 28, Mw 30 3 29 false, IG 31 (.bin .lss) [T 30, N 0] 29 false, I 32 .pick [T 29, Tt, T 31], Mv 23 32])
 (.cond (T 23)
 (.seq (.region [Mn 8 0, Mn 9 2])
 (.ret))
 (.skip))))))
 (.seq (.region [Mv 33 10, Nc 34 33, Fa 35 1 34, Ld 36 35, Mv 37 2, I 38 (.indexs 1) [T 36, T 37], Ld 39 38, Mv 12 39])
 (.seq (.region [Mv 40 10, Nc 41 40, Fa 42 1 41, Ld 43 42, Mv 44 2, Mv 45 3, I 46 (.indexs 1) [T 43, T 44], J (.store 1) [T 46, T 45]])
 (.seq (.region [Mv 47 12, Mv 8 47, Mn 9 0])
 (.ret))))))⟩
abbrev n_anon_Pool_Make : Nat := 190
def c_anon_Pool_Make : AFn := ⟨51, [.tmp 4, .tmp 5], .seq (.region [Mn 4 0, Mn 5 0])
 (.seq (.block 0 (.seq (.region [Mv 8 0, Kc 9 [F 124, T 8], I 10 (.un .not) [T 9], Mv 7 10])
 (.cond (T 7)
 (.seq (.region [Mn 4 0, Mn 5 1])
 (.ret))
 (.seq (.draw [[⟨0, Mv 12 0, [], false⟩, ⟨1, Nc 13 12, [], false⟩, ⟨2, Fa 14 2 13, [], false⟩, ⟨3, Ld 15 14, [], false⟩, ⟨4, I 16 (.lenm) [T 15], [], false⟩, ⟨5, Mv 17 0, [], false⟩, ⟨6, Nc 18 17, [], false⟩, ⟨7, Fa 19 0 18, [], false⟩, ⟨8, Ld 20 19, [], false⟩, ⟨9, Bi 21 .geq (T 16) (T 20), [], false⟩, ⟨10, Mv 11 21, [], false⟩]])
 (.cond (T 11)
 (.seq (.region [Mn 4 0, Mn 5 5])
 (.ret))
 (.skip))))))
 (.seq (.region [Mn 6 0])
 (.seq (.seq (.region [Mv 22 0, Nc 23 22, Fa 24 3 23, Ld 25 24, I 26 .lens [T 25], Bi 27 .gtr (T 26) (N 0)])
 (.cond (T 27)
 (.region [Mv 28 0, Nc 29 28, Fa 30 3 29, Kc 31 [F 283, T 30], Mv 6 31])
 (.seq (.region [Mv 32 0, Nc 33 32, Fa 34 4 33, Ld 35 34, Bi 36 .add (T 35) (N 1), Nc 37 32, Fa 38 4 37, J (.store 1) [T 38, T 36]])
 (.region [Mv 39 0, Nc 40 39, Fa 41 4 40, Ld 42 41, Mv 6 42]))))
 (.seq (.region [Mv 43 0, Nc 44 43, Fa 45 2 44, Ld 46 45, Mv 47 6, Mv 48 1, I 49 (.build (.agg [Zi, Zi, Zi]) [(0, 1), (1, 1), (2, 1)]) [N 1, T 48, N (-1)], J (.mapput (.scal .int)) [T 46, T 47, T 49]])
 (.seq (.region [Mv 50 6, Mv 4 50, Mn 5 0])
 (.ret))))))⟩
abbrev n_frames_Pool_Own : Nat := 191
def c_frames_Pool_Own : AFn := ⟨15, [.tmp 10], .seq (.region [I 7 (.box 3 1) [T 2], I 8 (.box 3 1) [T 3], I 9 (.box 3 1) [T 4], Mn 10 0])
 (.seq (.region [Mv 11 0, Mv 12 1, I 13 (.mkfunc 284 0) [T 7, T 8, T 9], Kc 14 [F 217, T 11, T 12, T 13], Mv 10 14])
 (.ret))⟩
abbrev n_slices_IndexFunc_kern_area_kern_area : Nat := 194
def c_slices_IndexFunc_kern_area_kern_area_L0 : ACode :=
 .seq (.region [Bi 9 .lss (T 8) (T 7)])
 (.seq (.cond (T 9)
 (.skip)
 (.exit 0))
 (.seq (.block 1 (.seq (.region [Mv 10 8, Mv 5 10])
 (.seq (.region [Mv 11 1, Mv 12 0, Mv 13 5, I 14 (.indexs 6) [T 12, T 13], I 15 (.loadn 6) [T 14], Kc 16 [T 11, T 15]])
 (.cond (T 16)
 (.seq (.region [Mv 17 5, Mv 4 17])
 (.ret))
 (.skip)))))
 (.region [Bi 18 .add (T 8) (N 1), Mv 8 18])))
def c_slices_IndexFunc_kern_area_kern_area : AFn := ⟨19, [.tmp 4], .seq (.region [Mn 4 0])
 (.seq (.seq (.region [Mv 6 0, I 7 .lens [T 6], Mn 8 0])
 (.block 0 (.loop c_slices_IndexFunc_kern_area_kern_area_L0)))
 (.seq (.region [Mn 4 (-1)])
 (.ret)))⟩
end Go.Proofs.YtlkfclgkinaibaaGreat

namespace Go.Proofs.YtlkfclgkinaibaaGreat
abbrev n_slices_Insert_kern_area_kern_area : Nat := 196
def c_slices_Insert_kern_area_kern_area : AFn := ⟨95, [.tmp 6], .seq (.region [I 6 .mv [.lit .nilsl]])
 (.seq (.region [Mv 10 0, Mv 11 1, I 12 (.slice 6 true false false) [T 10, T 11]])
 (.seq (.region [Mv 13 2, I 14 .lens [T 13], Mv 7 14])
 (.seq (.seq (.region [Mv 15 7, Bi 16 .eql (T 15) (N 0)])
 (.cond (T 16)
 (.seq (.region [Mv 17 0, Mv 6 17])
 (.ret))
 (.skip)))
 (.seq (.region [Mv 18 0, I 19 .lens [T 18], Mv 8 19])
 (.seq (.seq (.region [Mv 20 1, Mv 21 8, Bi 22 .eql (T 20) (T 21)])
 (.cond (T 22)
 (.seq (.region [Mv 23 0, Mv 24 2, I 25 (.append 168 6 40 (.vals [Zi, Zi, Zi, Zi, (.bool false), (.bool false)])) [T 23, T 24], Mv 6 25])
 (.ret))
 (.skip)))
 (.seq (.seq (.region [Mv 26 8, Mv 27 7, Bi 28 .add (T 26) (T 27), Mv 29 0, I 30 (.cap) [T 29], Bi 31 .gtr (T 28) (T 30)])
 (.cond (T 31)
 (.seq (.region [Mv 32 0, Mv 33 1, I 34 (.slice 6 false true false) [T 32, T 33], Mv 35 8, Mv 36 7, Bi 37 .add (T 35) (T 36), Mv 38 1, Bi 39 .sub (T 37) (T 38), I 40 (.appendz 168 6 40 (.vals [Zi, Zi, Zi, Zi, (.bool false), (.bool false)])) [T 34, T 39], Mv 9 40])
 (.seq (.region [Mv 41 9, Mv 42 1, I 43 (.slice 6 true false false) [T 41, T 42], Mv 44 2, I 45 (.copy 6) [T 43, T 44]])
 (.seq (.draw [[⟨0, Mv 46 9, [], false⟩, ⟨1, Mv 47 1, [], false⟩, ⟨2, Mv 48 7, [], false⟩, ⟨3, Bi 49 .add (T 47) (T 48), [], false⟩, ⟨4, I 50 (.slice 6 true false false) [T 46, T 49], [], false⟩, ⟨5, Mv 51 0, [], false⟩, ⟨6, Mv 52 1, [], false⟩, ⟨7, I 53 (.slice 6 true false false) [T 51, T 52], [], false⟩, ⟨8, I 54 (.copy 6) [T 50, T 53], [], false⟩]])
 (.seq (.region [Mv 55 9, Mv 6 55])
 (.ret)))))
 (.skip)))
 (.seq (.region [Mv 56 0, Mv 57 8, Mv 58 7, Bi 59 .add (T 57) (T 58), I 60 (.slice 6 false true false) [T 56, T 59], Mv 0 60])
 (.seq (.seq (.region [Mv 61 2, Mv 62 0, Mv 63 1, Mv 64 7, Bi 65 .add (T 63) (T 64), I 66 (.slice 6 true false false) [T 62, T 65], Kc 67 [F 286, T 61, T 66], I 68 (.un .not) [T 67]])
 (.cond (T 68)
 (.seq (.draw [[⟨0, Mv 69 0, [], false⟩, ⟨1, Mv 70 1, [], false⟩, ⟨2, Mv 71 7, [], false⟩, ⟨3, Bi 72 .add (T 70) (T 71), [], false⟩, ⟨4, I 73 (.slice 6 true false false) [T 69, T 72], [], false⟩, ⟨5, Mv 74 0, [], false⟩, ⟨6, Mv 75 1, [], false⟩, ⟨7, I 76 (.slice 6 true false false) [T 74, T 75], [], false⟩, ⟨8, I 77 (.copy 6) [T 73, T 76], [], false⟩]])
 (.seq (.region [Mv 78 0, Mv 79 1, I 80 (.slice 6 true false false) [T 78, T 79], Mv 81 2, I 82 (.copy 6) [T 80, T 81]])
 (.seq (.region [Mv 83 0, Mv 6 83])
 (.ret))))
 (.skip)))
 (.seq (.region [Mv 84 0, Mv 85 8, I 86 (.slice 6 true false false) [T 84, T 85], Mv 87 2, I 88 (.copy 6) [T 86, T 87]])
 (.seq (.region [Mv 89 0, Mv 90 1, I 91 (.slice 6 true false false) [T 89, T 90], Mv 92 7, Kc 93 [F 287, T 91, T 92]])
 (.seq (.region [Mv 94 0, Mv 6 94])
 (.ret))))))))))))⟩
abbrev n_kern_Kernel_out : Nat := 200
def c_kern_Kernel_out : AFn := ⟨23, [], .seq (.region [Mv 6 1, Nc 7 6, Fa 8 2 7, Ld 9 8, Mv 10 2, Kc 11 [F 290, T 9, T 10]])
 (.draw [[⟨0, Mv 12 0, [], false⟩, ⟨1, Nc 13 12, [], false⟩, ⟨2, Fa 14 8 13, [], false⟩, ⟨3, Ld 15 14, [], false⟩, ⟨4, Mv 16 1, [], false⟩, ⟨5, Nc 17 16, [], false⟩, ⟨6, Fa 18 0 17, [], false⟩, ⟨7, Ld 19 18, [], false⟩, ⟨8, Mv 20 2, [], false⟩, ⟨9, I 21 (.build (.agg [Zi, Zi]) [(0, 1), (1, 1)]) [T 19, T 20], [], false⟩, ⟨10, Kc 22 [F 143, T 15, T 21], [], false⟩]])⟩
abbrev n_kern_Kernel_put : Nat := 205
def c_kern_Kernel_put : AFn := ⟨52, [], .seq (.draw [[⟨0, Mv 11 1, [], false⟩, ⟨1, Nc 12 11, [], false⟩, ⟨2, Fa 13 3 12, [], false⟩, ⟨3, Ld 14 13, [], false⟩, ⟨4, Mv 15 2, [], false⟩, ⟨5, Bi 16 .add (T 14) (T 15), [], false⟩, ⟨6, Mv 17 1, [], false⟩, ⟨7, Nc 18 17, [], false⟩, ⟨8, Fa 19 0 18, [], false⟩, ⟨9, Ld 20 19, [], false⟩, ⟨10, Bi 21 .sub (T 16) (T 20), [], false⟩, ⟨11, Mv 8 21, [], false⟩]])
 (.seq (.draw [[⟨0, Mv 23 0, [], false⟩, ⟨1, Nc 24 23, [], false⟩, ⟨2, Fa 25 6 24, [], false⟩, ⟨3, Ld 26 25, [], false⟩, ⟨4, Mv 27 1, [], false⟩, ⟨5, Nc 28 27, [], false⟩, ⟨6, Fa 29 2 28, [], false⟩, ⟨7, Ld 30 29, [], false⟩, ⟨8, Mv 31 8, [], false⟩, ⟨9, Mv 32 3, [], false⟩, ⟨10, Kc 33 [F 189, T 26, T 30, T 31, T 32], [], false⟩, ⟨11, Mv 22 33, [], false⟩, ⟨12, Xt 34 0 22, [], false⟩, ⟨13, Xt 35 1 22, [], false⟩, ⟨14, Mv 9 34, [], false⟩, ⟨15, Mv 10 35, [], false⟩]])
 (.seq (.seq (.region [Mv 36 1, Nc 37 36, Fa 38 5 37, Ld 39 38])
 (.cond (T 39)
 (.region [Mv 40 0, Mv 41 1, Nc 42 41, Fa 43 2 42, Ld 44 43, Mv 45 8, Kc 46 [F 292, T 40, T 44, T 45]])
 (.skip)))
 (.seq (.region [Mv 47 9, Bi 48 .gtr (T 47) (N 0)])
 (.cond (T 48)
 (.region [Mv 49 0, Mv 50 9, Kc 51 [F 193, T 49, T 50]])
 (.skip)))))⟩
abbrev n_object_Pool_made : Nat := 214
def c_object_Pool_made : AFn := ⟨11, [.tmp 2], .seq (.region [I 2 .mv [Tf]])
 (.seq (.region [Mv 3 0, I 4 (.eqv true .ptr) [T 3, .lit .nilptr], Mv 5 4, Mw 6 0 5 true, IG 7 .nilCheck [T 6] 5 true, IG 8 (.fieldAddr 1) [T 7] 5 true, IG 9 .load1 [T 8] 5 true, I 10 .pick [T 5, T 9, Tf], Mv 2 10])
 (.ret))⟩
abbrev n_anon_Pool_change : Nat := 215
def c_anon_Pool_change : AFn := ⟨53, [.cell 6 (.loadn 3), .tmp 7], .seq (.region [I 6 (.alloc 103 3 (.vals [Zi, Zi, Zi])) [], Mn 7 0])
 (.seq (.seq (.region [Mv 11 0, Kc 12 [F 124, T 11], I 13 (.un .not) [T 12]])
 (.cond (T 13)
 (.seq (.region [I 14 (.build (.agg [Zi, Zi, Zi]) []) [], J (.store 3) [T 6, T 14], Mn 7 1])
 (.ret))
 (.skip)))
 (.seq (.region [Mv 16 0, Nc 17 16, Fa 18 2 17, Ld 19 18, Mv 20 1, I 21 (.lookup (.scal .int) (.agg [Zi, Zi, Zi]) true) [T 19, T 20], Mv 15 21, Xt 22 0 15, Xt 23 1 15, I 8 (.alloc 103 3 (.vals [Zi, Zi, Zi])) [], J (.store 3) [T 8, T 22], Mv 9 23])
 (.seq (.seq (.region [Mv 24 9, I 25 (.un .not) [T 24]])
 (.cond (T 25)
 (.seq (.region [I 26 (.build (.agg [Zi, Zi, Zi]) []) [], J (.store 3) [T 6, T 26], Mn 7 7])
 (.ret))
 (.skip)))
 (.seq (.seq (.region [Mv 27 2, Kc 28 [T 27, T 8], Mv 10 28])
 (.seq (.region [Mv 29 10, Bi 30 .neq (T 29) (N 0)])
 (.cond (T 30)
 (.seq (.region [I 31 (.build (.agg [Zi, Zi, Zi]) []) [], Mv 32 10, J (.store 3) [T 6, T 31], Mv 7 32])
 (.ret))
 (.skip))))
 (.seq (.draw [[⟨0, Mv 33 0, [], false⟩, ⟨1, Nc 34 33, [], false⟩, ⟨2, Fa 35 2 34, [], false⟩, ⟨3, Ld 36 35, [], false⟩, ⟨4, Mv 37 1, [], false⟩, ⟨5, I 38 (.loadn 3) [T 8], [], false⟩, ⟨6, J (.mapput (.scal .int)) [T 36, T 37, T 38], [], false⟩]])
 (.seq (.seq (.region [Fa 39 0 8, Ld 40 39, Bi 41 .eql (T 40) (N 0)])
 (.cond (T 41)
 (.seq (.region [Mv 42 0, Nc 43 42, Fa 44 2 43, Ld 45 44, Mv 46 1, J (.delete (.scal .int)) [T 45, T 46]])
 (.region [Mv 47 0, Nc 48 47, Fa 49 3 48, Mv 50 1, Kc 51 [F 296, T 49, T 50]]))
 (.skip)))
 (.seq (.region [I 52 (.loadn 3) [T 8], J (.store 3) [T 6, T 52], Mn 7 0])
 (.ret))))))))⟩
abbrev n_anon_Pool_Put_1 : Nat := 216
def c_anon_Pool_Put_1 : AFn := ⟨13, [.tmp 4], .seq (.region [Mn 4 0])
 (.seq (.draw [[⟨0, Mv 5 0, [], false⟩, ⟨1, Mv 6 0, [], false⟩, ⟨2, Ld 7 1, [], false⟩, ⟨3, Ld 8 2, [], false⟩, ⟨4, Nc 9 5, [], false⟩, ⟨5, Fa 10 1 9, [], false⟩, ⟨6, J (.store 1) [T 10, T 7], [(3, Ld 8 2)], false⟩, ⟨7, Nc 11 6, [], false⟩, ⟨8, Fa 12 2 11, [], false⟩, ⟨9, J (.store 1) [T 12, T 8], [], false⟩]])
 (.seq (.region [Mn 4 0])
 (.ret)))⟩
abbrev n_frames_Pool_with : Nat := 217
def c_frames_Pool_with : AFn := ⟨41, [.tmp 6], .seq (.region [Mn 6 0])
 (.seq (.block 0 (.seq (.region [Mv 8 0, Kc 9 [F 103, T 8], I 10 (.un .not) [T 9], Mv 7 10])
 (.cond (T 7)
 (.seq (.region [Mn 6 1])
 (.ret))
 (.seq (.region [Mv 12 1, Bi 13 .lss (T 12) (N 0), Mv 14 13, Mw 15 1 14 false, Mw 16 0 14 false, IG 17 .nilCheck [T 16] 14 false, IG 18 (.fieldAddr 0) [T 17] 14 false, IG 19 .load1 [T 18] 14 false, IG 20 .lens [T 19] 14 false, IG 21 (.bin .geq) [T 15, T 20] 14 false, I 22 .pick [T 14, Tt, T 21], Mv 11 22])
 (.cond (T 11)
 (.seq (.region [Mn 6 7])
 (.ret))
 (.seq (.region [Mv 24 0, Nc 25 24, Fa 26 0 25, Ld 27 26, Mv 28 1, I 29 (.indexs 5) [T 27, T 28], Fa 30 0 29, Ld 31 30, Bi 32 .eql (T 31) (N 0), Mv 23 32])
 (.cond (T 23)
 (.seq (.region [Mn 6 2])
 (.ret))
 (.skip))))))))
 (.seq (.region [Mv 33 2, Mv 34 0, Nc 35 34, Fa 36 0 35, Ld 37 36, Mv 38 1, I 39 (.indexs 5) [T 37, T 38], Kc 40 [T 33, T 39], Mv 6 40])
 (.ret)))⟩
abbrev n_frames_Pool_Loan_1 : Nat := 218
def c_frames_Pool_Loan_1 : AFn := ⟨9, [.tmp 3], .seq (.region [Mn 3 0])
 (.seq (.draw [[⟨0, Mv 4 0, [], false⟩, ⟨1, Nc 5 4, [], false⟩, ⟨2, Fa 6 4 5, [], false⟩, ⟨3, Ld 7 1, [], false⟩, ⟨4, Kc 8 [F 219, T 6, T 7], [], false⟩, ⟨5, Mv 3 8, [], false⟩]])
 (.ret))⟩
abbrev n_frames_count : Nat := 219
def c_frames_count : AFn := ⟨25, [.tmp 4], .seq (.region [Mn 4 0])
 (.seq (.seq (.region [Mv 5 1, Mv 6 0, Nc 7 6, Ld 8 7, I 9 (.un .neg) [T 8], Bi 10 .lss (T 5) (T 9), Mv 11 10, Mw 12 1 11 false, Mw 13 0 11 false, IG 14 .nilCheck [T 13] 11 false, IG 15 .load1 [T 14] 11 false, IG 16 (.bin .sub) [N 1000000, T 15] 11 false, IG 17 (.bin .gtr) [T 12, T 16] 11 false, I 18 .pick [T 11, Tt, T 17]])
 (.cond (T 18)
 (.seq (.region [Mn 4 2])
 (.ret))
 (.skip)))
 (.seq (.region [Mv 19 0, Nc 20 19, Ld 21 20, Mv 22 1, Bi 23 .add (T 21) (T 22), Nc 24 19, J (.store 1) [T 24, T 23]])
 (.seq (.region [Mn 4 0])
 (.ret))))⟩
abbrev n_frames_Pool_Give_1 : Nat := 220
def c_frames_Pool_Give_1 : AFn := ⟨18, [.tmp 2], .seq (.region [Mn 2 0])
 (.seq (.seq (.region [Mv 3 0, Nc 4 3, Fa 5 3 4, Ld 6 5, Bi 7 .neq (T 6) (N 0), Mv 8 7, Mw 9 0 8 false, IG 10 .nilCheck [T 9] 8 false, IG 11 (.fieldAddr 4) [T 10] 8 false, IG 12 .load1 [T 11] 8 false, IG 13 (.bin .neq) [T 12, N 0] 8 false, I 14 .pick [T 8, Tt, T 13]])
 (.cond (T 14)
 (.seq (.region [Mn 2 8])
 (.ret))
 (.skip)))
 (.seq (.region [Mv 15 0, I 16 (.build (.agg [Zi, Zi, Zi, Zi, Zi]) []) [], Nc 17 15, J (.store 5) [T 17, T 16]])
 (.seq (.region [Mn 2 0])
 (.ret))))⟩
abbrev n_slices_AppendSeq_int_int : Nat := 221
def c_slices_AppendSeq_int_int_A0 : ACode :=
 .region [Mv 5 7]
def c_slices_AppendSeq_int_int_B0 : ACode :=
 .block 1 (.region [Ld 8 2, Mv 9 5, I 10 (.bslice 3 1 1 (.vals [Zi]) [0]) [T 9], I 11 (.append 3 1 8 (.vals [Zi])) [T 8, T 10], J (.store 1) [T 2, T 11]])
def c_slices_AppendSeq_int_int : AFn := ⟨13, [.tmp 4], .seq (.region [I 2 (.box 34 1) [T 0], I 4 .mv [.lit .nilsl]])
 (.seq (.seq (.region [Mv 6 1])
 (.block 0 (.rfun (T 6) [7] c_slices_AppendSeq_int_int_A0 c_slices_AppendSeq_int_int_B0)))
 (.seq (.region [Ld 12 2, Mv 4 12])
 (.ret)))⟩
abbrev n_slices_pdqsortOrdered_int : Nat := 222
def c_slices_pdqsortOrdered_int_L0 : ACode :=
 .block 1 (.seq (.region [Mv 19 2, Mv 20 1, Bi 21 .sub (T 19) (T 20), Mv 10 21])
 (.seq (.seq (.region [Mv 22 10, Bi 23 .leq (T 22) (N 12)])
 (.cond (T 23)
 (.seq (.region [Mv 24 0, Mv 25 1, Mv 26 2, Kc 27 [F 297, T 24, T 25, T 26]])
 (.ret))
 (.skip)))
 (.seq (.seq (.region [Mv 28 3, Bi 29 .eql (T 28) (N 0)])
 (.cond (T 29)
 (.seq (.region [Mv 30 0, Mv 31 1, Mv 32 2, Kc 33 [F 298, T 30, T 31, T 32]])
 (.ret))
 (.skip)))
 (.seq (.seq (.region [Mv 34 8, I 35 (.un .not) [T 34]])
 (.cond (T 35)
 (.seq (.region [Mv 36 0, Mv 37 1, Mv 38 2, Kc 39 [F 299, T 36, T 37, T 38]])
 (.region [Mv 40 3, Bi 41 .sub (T 40) (N 1), Mv 3 41]))
 (.skip)))
 (.seq (.region [Mv 43 0, Mv 44 1, Mv 45 2, Kc 46 [F 300, T 43, T 44, T 45], Mv 42 46, Xt 47 0 42, Xt 48 1 42, Mv 11 47, Mv 12 48])
 (.seq (.seq (.region [Mv 49 12, Bi 50 .eql (T 49) (N 2)])
 (.cond (T 50)
 (.seq (.region [Mv 51 0, Mv 52 1, Mv 53 2, Kc 54 [F 301, T 51, T 52, T 53]])
 (.seq (.region [Mv 55 2, Bi 56 .sub (T 55) (N 1), Mv 57 11, Mv 58 1, Bi 59 .sub (T 57) (T 58), Bi 60 .sub (T 56) (T 59), Mv 11 60])
 (.region [Mn 12 1])))
 (.skip)))
 (.seq (.seq (.region [Mv 61 8, Mv 62 61, Mw 63 9 62 true, I 64 .pick [T 62, T 63, Tf], Mv 65 64, Mw 66 12 65 true, IG 67 (.bin .eql) [T 66, N 1] 65 true, I 68 .pick [T 65, T 67, Tf]])
 (.cond (T 68)
 (.seq (.region [Mv 69 0, Mv 70 1, Mv 71 2, Kc 72 [F 302, T 69, T 70, T 71]])
 (.cond (T 72)
 (.ret)
 (.skip)))
 (.skip)))
 (.seq (.seq (.draw [[⟨0, Mv 73 1, [], false⟩, ⟨1, Bi 74 .gtr (T 73) (N 0), [], false⟩, ⟨2, Mv 75 74, [], false⟩, ⟨3, Mw 76 0 75 true, [], false⟩, ⟨4, Mw 77 1 75 true, [], false⟩, ⟨5, IG 78 (.bin .sub) [T 77, N 1] 75 true, [], false⟩, ⟨6, IG 79 (.indexs 1) [T 76, T 78] 75 true, [], false⟩, ⟨7, IG 80 .load1 [T 79] 75 true, [], false⟩, ⟨8, Mw 81 0 75 true, [], false⟩, ⟨9, Mw 82 11 75 true, [], false⟩, ⟨10, IG 83 (.indexs 1) [T 81, T 82] 75 true, [], false⟩, ⟨11, IG 84 .load1 [T 83] 75 true, [], false⟩, ⟨12, IG 85 .callv [F 303, T 80, T 84] 75 true, [], false⟩, ⟨13, IG 86 (.un .not) [T 85] 75 true, [], false⟩, ⟨14, I 87 .pick [T 75, T 86, Tf], [], false⟩]])
 (.cond (T 87)
 (.seq (.region [Mv 88 0, Mv 89 1, Mv 90 2, Mv 91 11, Kc 92 [F 304, T 88, T 89, T 90, T 91], Mv 13 92])
 (.seq (.region [Mv 93 13, Mv 1 93])
 (.exit 1)))
 (.skip)))
 (.seq (.region [Mv 95 0, Mv 96 1, Mv 97 2, Mv 98 11, Kc 99 [F 305, T 95, T 96, T 97, T 98], Mv 94 99, Xt 100 0 94, Xt 101 1 94, Mv 14 100, Mv 15 101])
 (.seq (.region [Mv 102 15, Mv 9 102])
 (.seq (.region [Mv 103 14, Mv 104 1, Bi 105 .sub (T 103) (T 104), Mv 106 2, Mv 107 14, Bi 108 .sub (T 106) (T 107), Mv 16 105, Mv 17 108])
 (.seq (.region [Mv 109 10, Bi 110 .quo (T 109) (N 8), Mv 18 110])
 (.seq (.region [Mv 111 16, Mv 112 17, Bi 113 .lss (T 111) (T 112)])
 (.cond (T 113)
 (.seq (.region [Mv 114 16, Mv 115 18, Bi 116 .geq (T 114) (T 115), Mv 8 116])
 (.seq (.region [Mv 117 0, Mv 118 1, Mv 119 14, Mv 120 3, Kc 121 [F 222, T 117, T 118, T 119, T 120]])
 (.region [Mv 122 14, Bi 123 .add (T 122) (N 1), Mv 1 123])))
 (.seq (.region [Mv 124 17, Mv 125 18, Bi 126 .geq (T 124) (T 125), Mv 8 126])
 (.seq (.region [Mv 127 0, Mv 128 14, Bi 129 .add (T 128) (N 1), Mv 130 2, Mv 131 3, Kc 132 [F 222, T 127, T 129, T 130, T 131]])
 (.region [Mv 133 14, Mv 2 133])))))))))))))))))
def c_slices_pdqsortOrdered_int : AFn := ⟨134, [], .seq (.region [I 8 .mv [Tt]])
 (.seq (.region [I 9 .mv [Tt]])
 (.block 0 (.loop c_slices_pdqsortOrdered_int_L0)))⟩
abbrev n_math_bits_Len : Nat := 223
def c_math_bits_Len : AFn := ⟨8, [.tmp 2], .seq (.region [Mn 2 0])
 (.seq (.cond (Tf)
 (.seq (.region [Mv 3 0, I 4 (.conv .u32) [T 3], Kc 5 [F 306, T 4], Mv 2 5])
 (.ret))
 (.skip))
 (.seq (.region [Mv 6 0, Kc 7 [F 307, T 6], Mv 2 7])
 (.ret)))⟩
abbrev n_slices_BinarySearchFunc_api_Entry_api_Entry_int : Nat := 224
def c_slices_BinarySearchFunc_api_Entry_api_Entry_int_L0 : ACode :=
 .seq (.seq (.region [Mv 15 9, Mv 16 10, Bi 17 .lss (T 15) (T 16)])
 (.cond (T 17)
 (.skip)
 (.exit 0)))
 (.block 1 (.seq (.region [Mv 18 9, Mv 19 10, Bi 20 .add (T 18) (T 19), I 21 (.conv .u64) [T 20], I 22 (.bin .shr) [T 21, .lit (.int .u64 1)], I 23 (.conv .i64) [T 22], Mv 11 23])
 (.seq (.region [Mv 24 2, Mv 25 0, Mv 26 11, I 27 (.indexs 10) [T 25, T 26], I 28 (.loadn 10) [T 27], Mv 29 1, Kc 30 [T 24, T 28, T 29], Bi 31 .lss (T 30) (N 0)])
 (.cond (T 31)
 (.region [Mv 32 11, Bi 33 .add (T 32) (N 1), Mv 9 33])
 (.region [Mv 34 11, Mv 10 34])))))
def c_slices_BinarySearchFunc_api_Entry_api_Entry_int : AFn := ⟨49, [.tmp 6, .tmp 7], .seq (.region [Mn 6 0, I 7 .mv [Tf]])
 (.seq (.region [Mv 12 0, I 13 .lens [T 12], Mv 8 13])
 (.seq (.region [Mv 14 8, Mn 9 0, Mv 10 14])
 (.seq (.block 0 (.loop c_slices_BinarySearchFunc_api_Entry_api_Entry_int_L0))
 (.seq (.region [Mv 35 9, Mv 36 9, Mv 37 8, Bi 38 .lss (T 36) (T 37), Mv 39 38, Mw 40 2 39 true, Mw 41 0 39 true, Mw 42 9 39 true, IG 43 (.indexs 10) [T 41, T 42] 39 true, IG 44 (.loadn 10) [T 43] 39 true, Mw 45 1 39 true, IG 46 .callv [T 40, T 44, T 45] 39 true, IG 47 (.bin .eql) [T 46, N 0] 39 true, I 48 .pick [T 39, T 47, Tf], Mv 6 35, Mv 7 48])
 (.ret)))))⟩
abbrev n_entry_Find_1 : Nat := 225
def c_entry_Find_1 : AFn := ⟨9, [.tmp 4], .seq (.region [I 2 (.box 94 10) [T 0], Mn 4 0])
 (.seq (.seq (.region [Fa 5 1 2, Ld 6 5, Mv 7 1, Bi 8 .leq (T 6) (T 7)])
 (.cond (T 8)
 (.seq (.region [Mn 4 (-1)])
 (.ret))
 (.skip)))
 (.seq (.region [Mn 4 1])
 (.ret)))⟩
abbrev n_kern_proc_at_1 : Nat := 226
def c_kern_proc_at_1 : AFn := ⟨14, [.tmp 3], .seq (.region [I 2 (.box 168 6) [T 0], I 3 .mv [Tf]])
 (.seq (.region [Fa 4 0 2, Ld 5 4, Ld 6 1, Bi 7 .leq (T 5) (T 6), Mv 8 7, IG 9 .load1 [T 1] 8 true, IG 10 (.fieldAddr 1) [T 2] 8 true, IG 11 .load1 [T 10] 8 true, IG 12 (.bin .lss) [T 9, T 11] 8 true, I 13 .pick [T 8, T 12, Tf], Mv 3 13])
 (.ret))⟩
abbrev n_amap_Pool_Slots : Nat := 227
def c_amap_Pool_Slots : AFn := ⟨16, [.tmp 4], .seq (.region [Mn 4 0])
 (.seq (.seq (.region [Mv 6 0, Mv 7 1, Kc 8 [F 228, T 6, T 7], Mv 5 8])
 (.seq (.region [Mv 9 5, I 10 (.eqv true .ptr) [T 9, .lit .nilptr]])
 (.cond (T 10)
 (.seq (.region [Mv 11 5, Nc 12 11, Fa 13 1 12, Ld 14 13, I 15 .lens [T 14], Mv 4 15])
 (.ret))
 (.skip))))
 (.seq (.region [Mn 4 0])
 (.ret)))⟩
abbrev n_amap_Pool_of : Nat := 228
def c_amap_Pool_of : AFn := ⟨29, [.tmp 4], .seq (.region [I 4 .mv [.lit .nilptr]])
 (.seq (.seq (.region [Mv 5 0, Kc 6 [F 184, T 5], I 7 (.un .not) [T 6], Mv 8 7, Mw 9 1 8 false, IG 10 (.bin .lss) [T 9, N 1] 8 false, I 11 .pick [T 8, Tt, T 10], Mv 12 11, Mw 13 1 12 false, Mw 14 0 12 false, IG 15 .nilCheck [T 14] 12 false, IG 16 (.fieldAddr 2) [T 15] 12 false, IG 17 .load1 [T 16] 12 false, IG 18 .lens [T 17] 12 false, IG 19 (.bin .gtr) [T 13, T 18] 12 false, I 20 .pick [T 12, Tt, T 19]])
 (.cond (T 20)
 (.seq (.region [I 4 .mv [.lit .nilptr]])
 (.ret))
 (.skip)))
 (.seq (.region [Mv 21 0, Nc 22 21, Fa 23 2 22, Ld 24 23, Mv 25 1, Bi 26 .sub (T 25) (N 1), I 27 (.indexs 1) [T 24, T 26], Ld 28 27, Mv 4 28])
 (.ret)))⟩
abbrev n_slices_Index_int_int : Nat := 232
def c_slices_Index_int_int_L0 : ACode :=
 .seq (.region [Bi 9 .lss (T 8) (T 7)])
 (.seq (.cond (T 9)
 (.skip)
 (.exit 0))
 (.seq (.block 1 (.seq (.region [Mv 10 8, Mv 5 10])
 (.seq (.region [Mv 11 1, Mv 12 0, Mv 13 5, I 14 (.indexs 1) [T 12, T 13], Ld 15 14, Bi 16 .eql (T 11) (T 15)])
 (.cond (T 16)
 (.seq (.region [Mv 17 5, Mv 4 17])
 (.ret))
 (.skip)))))
 (.region [Bi 18 .add (T 8) (N 1), Mv 8 18])))
def c_slices_Index_int_int : AFn := ⟨19, [.tmp 4], .seq (.region [Mn 4 0])
 (.seq (.seq (.region [Mv 6 0, I 7 .lens [T 6], Mn 8 0])
 (.block 0 (.loop c_slices_Index_int_int_L0)))
 (.seq (.region [Mn 4 (-1)])
 (.ret)))⟩
abbrev n_ring_Rows_int_Rows : Nat := 235
def c_ring_Rows_int_Rows : AFn := ⟨10, [.tmp 2], .seq (.region [Mn 2 0])
 (.seq (.seq (.region [Mv 3 0, I 4 (.eqv false .ptr) [T 3, .lit .nilptr]])
 (.cond (T 4)
 (.seq (.region [Mn 2 0])
 (.ret))
 (.skip)))
 (.seq (.region [Mv 5 0, Nc 6 5, Fa 7 0 6, Ld 8 7, I 9 .lens [T 8], Mv 2 9])
 (.ret)))⟩
abbrev n_maps_Keys_map_int_kern_proc_int_kern_proc : Nat := 238
def c_maps_Keys_map_int_kern_proc_int_kern_proc : AFn := ⟨4, [.tmp 2], .seq (.region [I 1 (.box 67 1) [T 0], I 2 .mv [.lit .nilfunc]])
 (.seq (.region [I 3 (.mkfunc 312 0) [T 1], Mv 2 3])
 (.ret))⟩
abbrev n_pmap_Map_All_1 : Nat := 239
def c_pmap_Map_All_1_A0 : ACode :=
 .seq (.region [Mv 3 17])
 (.region [I 4 (.alloc 204 2 (.vals [Zi, Zi])) [], J (.store 2) [T 4, T 18]])
def c_pmap_Map_All_1_B0 : ACode :=
 .block 1 (.seq (.region [Ld 19 2, Mv 20 3, I 21 (.loadn 2) [T 4], Kc 22 [T 19, T 20, T 21], I 23 (.un .not) [T 22]])
 (.cond (T 23)
 (.ret)
 (.skip)))
def c_pmap_Map_All_1 : AFn := ⟨24, [], .seq (.region [I 2 (.box 292 1) [T 0]])
 (.seq (.seq (.region [Ld 5 1, Kc 6 [F 178, T 5], I 7 (.un .not) [T 6]])
 (.cond (T 7)
 (.ret)
 (.skip)))
 (.seq (.draw [[⟨0, Ld 8 1, [], false⟩, ⟨1, Nc 9 8, [], false⟩, ⟨2, Fa 10 0 9, [], false⟩, ⟨3, Ld 11 10, [], false⟩, ⟨4, Ld 12 1, [], false⟩, ⟨5, Nc 13 12, [], false⟩, ⟨6, Fa 14 3 13, [], false⟩, ⟨7, Ld 15 14, [], false⟩, ⟨8, Kc 16 [F 240, T 11, T 15], [], false⟩]])
 (.block 0 (.rfun (T 16) [17, 18] c_pmap_Map_All_1_A0 c_pmap_Map_All_1_B0))))⟩
abbrev n_walk_Leaves : Nat := 240
def c_walk_Leaves : AFn := ⟨6, [.tmp 4], .seq (.region [I 2 (.box 49 1) [T 0], I 3 (.box 3 1) [T 1], I 4 .mv [.lit .nilfunc]])
 (.seq (.region [I 5 (.mkfunc 313 0) [T 2, T 3], Mv 4 5])
 (.ret))⟩
abbrev n_pmap_Map_change : Nat := 241
def c_pmap_Map_change : AFn := ⟨52, [.tmp 6], .seq (.region [I 6 .mv [Tf]])
 (.seq (.region [Mv 14 0, Mv 15 1, Kc 16 [F 317, T 14, T 15], Mv 13 16, Xt 17 0 13, Xt 18 1 13, I 7 (.alloc 204 2 (.vals [Zi, Zi])) [], J (.store 2) [T 7, T 17], Mv 8 18])
 (.seq (.seq (.region [Mv 19 8, I 20 (.un .not) [T 19]])
 (.cond (T 20)
 (.seq (.region [I 6 .mv [Tf]])
 (.ret))
 (.skip)))
 (.seq (.draw [[⟨0, Mv 22 0, [], false⟩, ⟨1, Nc 23 22, [], false⟩, ⟨2, Fa 24 0 23, [], false⟩, ⟨3, Ld 25 24, [], false⟩, ⟨4, Mv 26 0, [], false⟩, ⟨5, Nc 27 26, [], false⟩, ⟨6, Fa 28 3 27, [], false⟩, ⟨7, Ld 29 28, [], false⟩, ⟨8, Mv 30 1, [], false⟩, ⟨9, Kc 31 [F 318, T 25, T 29, T 30], [], false⟩, ⟨10, Mv 21 31, [], false⟩, ⟨11, Xt 32 0 21, [], false⟩, ⟨12, Xt 33 1 21, [], false⟩, ⟨13, Xt 34 2 21, [], false⟩, ⟨14, Mv 9 32, [], false⟩, ⟨15, Mv 10 33, [], false⟩, ⟨16, Mv 11 34, [], false⟩]])
 (.seq (.region [Mv 35 2, I 36 (.loadn 2) [T 7], Kc 37 [T 35, T 36], Kc 38 [F 319, T 37], Mv 12 38])
 (.seq (.region [Mv 39 0, Nc 40 39, Fa 41 0 40, Ld 42 41, Mv 43 9, Mv 44 10, Mv 45 12, Kc 46 [F 276, T 42, T 43, T 44, T 45]])
 (.seq (.seq (.region [Mv 47 12, I 48 (.bin .eql) [T 47, .lit (.int .u64 0)]])
 (.cond (T 48)
 (.region [Mv 49 0, Mv 50 1, Kc 51 [F 320, T 49, T 50]])
 (.skip)))
 (.seq (.region [I 6 .mv [Tt]])
 (.ret))))))))⟩
abbrev n_slices_IndexFunc_frames_Frame_frames_Frame : Nat := 244
def c_slices_IndexFunc_frames_Frame_frames_Frame_L0 : ACode :=
 .seq (.region [Bi 9 .lss (T 8) (T 7)])
 (.seq (.cond (T 9)
 (.skip)
 (.exit 0))
 (.seq (.block 1 (.seq (.region [Mv 10 8, Mv 5 10])
 (.seq (.region [Mv 11 1, Mv 12 0, Mv 13 5, I 14 (.indexs 5) [T 12, T 13], I 15 (.loadn 5) [T 14], Kc 16 [T 11, T 15]])
 (.cond (T 16)
 (.seq (.region [Mv 17 5, Mv 4 17])
 (.ret))
 (.skip)))))
 (.region [Bi 18 .add (T 8) (N 1), Mv 8 18])))
def c_slices_IndexFunc_frames_Frame_frames_Frame : AFn := ⟨19, [.tmp 4], .seq (.region [Mn 4 0])
 (.seq (.seq (.region [Mv 6 0, I 7 .lens [T 6], Mn 8 0])
 (.block 0 (.loop c_slices_IndexFunc_frames_Frame_frames_Frame_L0)))
 (.seq (.region [Mn 4 (-1)])
 (.ret)))⟩
abbrev n_frames_Pool_Take_1 : Nat := 245
def c_frames_Pool_Take_1 : AFn := ⟨6, [.tmp 2], .seq (.region [I 1 (.box 80 5) [T 0], I 2 .mv [Tf]])
 (.seq (.region [I 3 (.loadn 5) [T 1], I 4 (.build (.agg [Zi, Zi, Zi, Zi, Zi]) []) [], I 5 (.eqv false (.flat [.int, .int, .int, .int, .int])) [T 3, T 4], Mv 2 5])
 (.ret))⟩
abbrev n_maps_Keys_map_int_object_one_int_object_one : Nat := 248
def c_maps_Keys_map_int_object_one_int_object_one : AFn := ⟨4, [.tmp 2], .seq (.region [I 1 (.box 142 1) [T 0], I 2 .mv [.lit .nilfunc]])
 (.seq (.region [I 3 (.mkfunc 322 0) [T 1], Mv 2 3])
 (.ret))⟩
abbrev n_entry_Clip : Nat := 251
def c_entry_Clip : AFn := ⟨56, [.tmp 4], .seq (.region [I 4 .mv [.lit .nilsl]])
 (.seq (.region [Mv 8 0, Kc 9 [F 172, T 8], Mv 0 9])
 (.seq (.region [Mv 11 0, Mv 12 1, Kc 13 [F 123, T 11, T 12], Mv 10 13, Xt 14 0 10, Xt 15 1 10, Mv 5 14, Mv 6 15])
 (.seq (.seq (.region [Mv 16 6, I 17 (.un .not) [T 16], Mv 18 17, Mw 19 0 18 false, Mw 20 5 18 false, IG 21 (.indexs 10) [T 19, T 20] 18 false, IG 22 (.fieldAddr 0) [T 21] 18 false, IG 23 .load1 [T 22] 18 false, Mw 24 1 18 false, IG 25 (.bin .eql) [T 23, T 24] 18 false, I 26 .pick [T 18, Tt, T 25]])
 (.cond (T 26)
 (.seq (.region [Mv 27 0, Mv 4 27])
 (.ret))
 (.skip)))
 (.seq (.region [Mv 28 0, Mv 29 5, I 30 (.indexs 10) [T 28, T 29], I 31 (.loadn 10) [T 30], I 7 (.alloc 94 10 (.vals [Zi, Zi, Zi, Zi, (.bool false), Zi, Zi, Zi, Zi, (.bool false)])) [], J (.store 10) [T 7, T 31]])
 (.seq (.seq (.region [Fa 32 2 7, Ld 33 32, Bi 34 .gtr (T 33) (N 0)])
 (.cond (T 34)
 (.region [Fa 35 3 7, Ld 36 35, Mv 37 1, Fa 38 0 7, Ld 39 38, Bi 40 .sub (T 37) (T 39), Bi 41 .add (T 36) (T 40), Fa 42 3 7, J (.store 1) [T 42, T 41]])
 (.skip)))
 (.seq (.region [Mv 43 0, Mv 44 5, Mv 45 1, Mv 46 1, I 47 (.indexs 10) [T 43, T 44], Fa 48 1 47, J (.store 1) [T 48, T 45], Fa 49 0 7, J (.store 1) [T 49, T 46]])
 (.seq (.region [Mv 50 0, Mv 51 5, Bi 52 .add (T 51) (N 1), I 53 (.loadn 10) [T 7], I 54 (.bslice 94 10 1 (.vals [Zi, Zi, Zi, Zi, (.bool false), Zi, Zi, Zi, Zi, (.bool false)]) [0]) [T 53], Kc 55 [F 255, T 50, T 52, T 54], Mv 4 55])
 (.ret))))))))⟩
abbrev n_slices_DeleteFunc_api_Entry_api_Entry : Nat := 252
def c_slices_DeleteFunc_api_Entry_api_Entry_L0 : ACode :=
 .seq (.seq (.region [Mv 16 6, Mv 17 0, I 18 .lens [T 17], Bi 19 .lss (T 16) (T 18)])
 (.cond (T 19)
 (.skip)
 (.exit 0)))
 (.seq (.block 1 (.seq (.region [Mv 22 0, Mv 23 6, I 24 (.indexs 10) [T 22, T 23], I 25 (.loadn 10) [T 24], I 7 (.alloc 94 10 (.vals [Zi, Zi, Zi, Zi, (.bool false), Zi, Zi, Zi, Zi, (.bool false)])) [], J (.store 10) [T 7, T 25]])
 (.seq (.region [Mv 26 1, I 27 (.loadn 10) [T 7], Kc 28 [T 26, T 27], I 29 (.un .not) [T 28]])
 (.cond (T 29)
 (.seq (.region [Mv 30 0, Mv 31 5, I 32 (.loadn 10) [T 7], I 33 (.indexs 10) [T 30, T 31], J (.store 10) [T 33, T 32]])
 (.region [Mv 34 5, Bi 35 .add (T 34) (N 1), Mv 5 35]))
 (.skip)))))
 (.region [Mv 20 6, Bi 21 .add (T 20) (N 1), Mv 6 21]))
def c_slices_DeleteFunc_api_Entry_api_Entry : AFn := ⟨42, [.tmp 4], .seq (.region [I 4 .mv [.lit .nilsl]])
 (.seq (.region [Mv 8 0, Mv 9 1, Kc 10 [F 325, T 8, T 9], Mv 5 10])
 (.seq (.seq (.region [Mv 11 5, Bi 12 .eql (T 11) (N (-1))])
 (.cond (T 12)
 (.seq (.region [Mv 13 0, Mv 4 13])
 (.ret))
 (.skip)))
 (.seq (.seq (.region [Mv 14 5, Bi 15 .add (T 14) (N 1), Mv 6 15])
 (.block 0 (.loop c_slices_DeleteFunc_api_Entry_api_Entry_L0)))
 (.seq (.region [Mv 36 0, Mv 37 5, I 38 (.slice 10 true false false) [T 36, T 37], J (.clear 10 (.vals [Zi, Zi, Zi, Zi, (.bool false), Zi, Zi, Zi, Zi, (.bool false)])) [T 38]])
 (.seq (.region [Mv 39 0, Mv 40 5, I 41 (.slice 10 false true false) [T 39, T 40], Mv 4 41])
 (.ret))))))⟩
abbrev n_entry_room : Nat := 254
def c_entry_room_L0 : ACode :=
 .seq (.region [Bi 23 .lss (T 22) (T 21)])
 (.seq (.cond (T 23)
 (.skip)
 (.exit 0))
 (.seq (.block 1 (.seq (.region [I 24 (.indexs 10) [T 20, T 22], I 25 (.loadn 10) [T 24], I 11 (.alloc 94 10 (.vals [Zi, Zi, Zi, Zi, (.bool false), Zi, Zi, Zi, Zi, (.bool false)])) [], J (.store 10) [T 11, T 25]])
 (.seq (.seq (.region [Mv 26 1, Fa 27 0 11, Ld 28 27, Mv 29 2, Bi 30 .sub (T 28) (T 29), Bi 31 .leq (T 26) (T 30)])
 (.cond (T 31)
 (.exit 0)
 (.skip)))
 (.region [Fa 32 1 11, Ld 33 32, Mv 1 33]))))
 (.region [Bi 34 .add (T 22) (N 1), Mv 22 34])))
def c_entry_room : AFn := ⟨40, [.tmp 6, .tmp 7], .seq (.region [Mn 6 0, I 7 .mv [Tf]])
 (.seq (.region [Mv 13 0, Mv 14 1, Kc 15 [F 123, T 13, T 14], Mv 12 15, Xt 16 0 12, Xt 17 1 12, Mv 8 16, Mv 9 17])
 (.seq (.seq (.region [Mv 18 0, Mv 19 8, I 20 (.slice 10 true false false) [T 18, T 19], I 21 .lens [T 20], Mn 22 0])
 (.block 0 (.loop c_entry_room_L0)))
 (.seq (.region [Mv 35 1, Mv 36 1, Mv 37 2, Bi 38 .sub (N 67108864) (T 37), Bi 39 .leq (T 36) (T 38), Mv 6 35, Mv 7 39])
 (.ret))))⟩
abbrev n_slices_Insert_api_Entry_api_Entry : Nat := 255
def c_slices_Insert_api_Entry_api_Entry : AFn := ⟨95, [.tmp 6], .seq (.region [I 6 .mv [.lit .nilsl]])
 (.seq (.region [Mv 10 0, Mv 11 1, I 12 (.slice 10 true false false) [T 10, T 11]])
 (.seq (.region [Mv 13 2, I 14 .lens [T 13], Mv 7 14])
 (.seq (.seq (.region [Mv 15 7, Bi 16 .eql (T 15) (N 0)])
 (.cond (T 16)
 (.seq (.region [Mv 17 0, Mv 6 17])
 (.ret))
 (.skip)))
 (.seq (.region [Mv 18 0, I 19 .lens [T 18], Mv 8 19])
 (.seq (.seq (.region [Mv 20 1, Mv 21 8, Bi 22 .eql (T 20) (T 21)])
 (.cond (T 22)
 (.seq (.region [Mv 23 0, Mv 24 2, I 25 (.append 94 10 80 (.vals [Zi, Zi, Zi, Zi, (.bool false), Zi, Zi, Zi, Zi, (.bool false)])) [T 23, T 24], Mv 6 25])
 (.ret))
 (.skip)))
 (.seq (.seq (.region [Mv 26 8, Mv 27 7, Bi 28 .add (T 26) (T 27), Mv 29 0, I 30 (.cap) [T 29], Bi 31 .gtr (T 28) (T 30)])
 (.cond (T 31)
 (.seq (.region [Mv 32 0, Mv 33 1, I 34 (.slice 10 false true false) [T 32, T 33], Mv 35 8, Mv 36 7, Bi 37 .add (T 35) (T 36), Mv 38 1, Bi 39 .sub (T 37) (T 38), I 40 (.appendz 94 10 80 (.vals [Zi, Zi, Zi, Zi, (.bool false), Zi, Zi, Zi, Zi, (.bool false)])) [T 34, T 39], Mv 9 40])
 (.seq (.region [Mv 41 9, Mv 42 1, I 43 (.slice 10 true false false) [T 41, T 42], Mv 44 2, I 45 (.copy 10) [T 43, T 44]])
 (.seq (.draw [[⟨0, Mv 46 9, [], false⟩, ⟨1, Mv 47 1, [], false⟩, ⟨2, Mv 48 7, [], false⟩, ⟨3, Bi 49 .add (T 47) (T 48), [], false⟩, ⟨4, I 50 (.slice 10 true false false) [T 46, T 49], [], false⟩, ⟨5, Mv 51 0, [], false⟩, ⟨6, Mv 52 1, [], false⟩, ⟨7, I 53 (.slice 10 true false false) [T 51, T 52], [], false⟩, ⟨8, I 54 (.copy 10) [T 50, T 53], [], false⟩]])
 (.seq (.region [Mv 55 9, Mv 6 55])
 (.ret)))))
 (.skip)))
 (.seq (.region [Mv 56 0, Mv 57 8, Mv 58 7, Bi 59 .add (T 57) (T 58), I 60 (.slice 10 false true false) [T 56, T 59], Mv 0 60])
 (.seq (.seq (.region [Mv 61 2, Mv 62 0, Mv 63 1, Mv 64 7, Bi 65 .add (T 63) (T 64), I 66 (.slice 10 true false false) [T 62, T 65], Kc 67 [F 326, T 61, T 66], I 68 (.un .not) [T 67]])
 (.cond (T 68)
 (.seq (.draw [[⟨0, Mv 69 0, [], false⟩, ⟨1, Mv 70 1, [], false⟩, ⟨2, Mv 71 7, [], false⟩, ⟨3, Bi 72 .add (T 70) (T 71), [], false⟩, ⟨4, I 73 (.slice 10 true false false) [T 69, T 72], [], false⟩, ⟨5, Mv 74 0, [], false⟩, ⟨6, Mv 75 1, [], false⟩, ⟨7, I 76 (.slice 10 true false false) [T 74, T 75], [], false⟩, ⟨8, I 77 (.copy 10) [T 73, T 76], [], false⟩]])
 (.seq (.region [Mv 78 0, Mv 79 1, I 80 (.slice 10 true false false) [T 78, T 79], Mv 81 2, I 82 (.copy 10) [T 80, T 81]])
 (.seq (.region [Mv 83 0, Mv 6 83])
 (.ret))))
 (.skip)))
 (.seq (.region [Mv 84 0, Mv 85 8, I 86 (.slice 10 true false false) [T 84, T 85], Mv 87 2, I 88 (.copy 10) [T 86, T 87]])
 (.seq (.region [Mv 89 0, Mv 90 1, I 91 (.slice 10 true false false) [T 89, T 90], Mv 92 7, Kc 93 [F 327, T 91, T 92]])
 (.seq (.region [Mv 94 0, Mv 6 94])
 (.ret))))))))))))⟩
abbrev n_tlb_Table_Find : Nat := 257
def c_tlb_Table_Find : AFn := ⟨22, [.cell 4 (.loadn 2), .tmp 5], .seq (.region [I 3 (.box 207 2) [T 1], I 4 (.alloc 204 2 (.vals [Zi, Zi])) [], I 5 .mv [Tf]])
 (.seq (.seq (.region [Mv 8 0, I 9 (.eqv false .ptr) [T 8, .lit .nilptr]])
 (.cond (T 9)
 (.seq (.region [I 10 (.build (.agg [Zi, Zi]) []) [], J (.store 2) [T 4, T 10], I 5 .mv [Tf]])
 (.ret))
 (.skip)))
 (.seq (.draw [[⟨0, Mv 12 0, [], false⟩, ⟨1, Nc 13 12, [], false⟩, ⟨2, Fa 14 2 13, [], false⟩, ⟨3, Ld 15 14, [], false⟩, ⟨4, I 16 (.loadn 2) [T 3], [], false⟩, ⟨5, I 17 (.lookup (.flat [.int, .int]) (.agg [Zi, Zi]) true) [T 15, T 16], [], false⟩, ⟨6, Mv 11 17, [], false⟩, ⟨7, Xt 18 0 11, [], false⟩, ⟨8, Xt 19 1 11, [], false⟩, ⟨9, I 6 (.alloc 204 2 (.vals [Zi, Zi])) [], [(3, Ld 15 14), (4, I 16 (.loadn 2) [T 3]), (5, I 17 (.lookup (.flat [.int, .int]) (.agg [Zi, Zi]) true) [T 15, T 16])], false⟩, ⟨10, J (.store 2) [T 6, T 18], [], false⟩, ⟨11, Mv 7 19, [], false⟩]])
 (.seq (.region [I 20 (.loadn 2) [T 6], Mv 21 7, J (.store 2) [T 4, T 20], Mv 5 21])
 (.ret))))⟩
abbrev n_pte_May : Nat := 258
def c_pte_May : AFn := ⟨37, [.tmp 6], .seq (.region [I 3 (.box 204 2) [T 0], I 6 .mv [Tf]])
 (.seq (.region [Mn 7 0])
 (.seq (.seq (.region [Mv 8 1])
 (.block 0 (.seq (.region [Bi 10 .eql (T 8) (N 1), Mv 9 10])
 (.cond (T 9)
 (.region [Mn 7 2])
 (.seq (.region [Bi 12 .eql (T 8) (N 2), Mv 11 12])
 (.cond (T 11)
 (.region [Mn 7 4])
 (.seq (.region [Bi 14 .eql (T 8) (N 4), Mv 13 14])
 (.cond (T 13)
 (.region [Mn 7 8])
 (.skip)))))))))
 (.seq (.region [I 15 (.loadn 2) [T 3], Kc 16 [F 275, T 15], Bi 17 .eql (T 16) (N 2), Mv 18 17, Mw 19 7 18 true, IG 20 (.bin .gtr) [T 19, N 0] 18 true, I 21 .pick [T 18, T 20, Tf], Mv 22 21, IG 23 (.fieldAddr 0) [T 3] 22 true, IG 24 .load1 [T 23] 22 true, Mw 25 7 22 true, IG 26 (.bin .and) [T 24, T 25] 22 true, IG 27 (.bin .gtr) [T 26, N 0] 22 true, I 28 .pick [T 22, T 27, Tf], Mv 29 28, IG 30 (.fieldAddr 0) [T 3] 29 true, IG 31 .load1 [T 30] 29 true, IG 32 (.bin .and) [T 31, N 16] 29 true, IG 33 (.bin .gtr) [T 32, N 0] 29 true, Mw 34 2 29 true, IG 35 (.eqv false (.scal .bool)) [T 33, T 34] 29 true, I 36 .pick [T 29, T 35, Tf], Mv 6 36])
 (.ret))))⟩
abbrev n_walk_Walk : Nat := 259
def c_walk_Walk : AFn := ⟨90, [.tmp 10, .tmp 11, .tmp 12], .seq (.region [Mn 10 0, Mn 11 0, Mn 12 0])
 (.seq (.seq (.region [Mv 22 2, Kc 23 [F 328, T 22], I 24 (.un .not) [T 23], Mv 25 24, Mw 26 1 25 false, IG 27 (.bin .lss) [T 26, N 0] 25 false, I 28 .pick [T 25, Tt, T 27], Mv 29 28, Mw 30 1 29 false, Mw 31 0 29 false, IG 32 .callv [F 44, T 31] 29 false, IG 33 (.bin .geq) [T 30, T 32] 29 false, I 34 .pick [T 29, Tt, T 33]])
 (.cond (T 34)
 (.seq (.region [Mn 10 2, Mn 11 0, Mn 12 0])
 (.ret))
 (.skip)))
 (.seq (.region [Mv 36 2, Kc 37 [F 329, T 36], Mv 35 37, Xt 38 0 35, Xt 39 1 35, Mv 13 38, Mv 14 39])
 (.seq (.region [Mv 41 0, Mv 42 1, Mv 43 13, Kc 44 [F 318, T 41, T 42, T 43], Mv 40 44, Xt 45 0 40, Xt 46 1 40, Xt 47 2 40, Mv 15 45, Mv 16 46, Mv 17 47])
 (.seq (.seq (.region [Mv 48 17, I 49 (.un .not) [T 48]])
 (.cond (T 49)
 (.seq (.region [Mn 10 1, Mn 11 0, Mn 12 0])
 (.ret))
 (.skip)))
 (.seq (.region [Mv 50 0, Mv 51 15, Mv 52 16, Kc 53 [F 315, T 50, T 51, T 52], I 18 (.alloc 204 2 (.vals [Zi, Zi])) [], J (.store 2) [T 18, T 53]])
 (.seq (.seq (.draw [[⟨0, I 54 (.loadn 2) [T 18], [], false⟩, ⟨1, Kc 55 [F 275, T 54], [], false⟩, ⟨2, Bi 56 .neq (T 55) (N 2), [], false⟩, ⟨3, Mv 57 56, [], false⟩, ⟨4, IG 58 (.fieldAddr 1) [T 18] 57 false, [], false⟩, ⟨5, IG 59 .load1 [T 58] 57 false, [], false⟩, ⟨6, Mw 60 0 57 false, [], false⟩, ⟨7, IG 61 .callv [F 44, T 60] 57 false, [(5, IG 59 .load1 [T 58] 57 false)], false⟩, ⟨8, IG 62 (.bin .geq) [T 59, T 61] 57 false, [], false⟩, ⟨9, I 63 .pick [T 57, Tt, T 62], [], false⟩]])
 (.cond (T 63)
 (.seq (.region [Mn 10 1, Mn 11 0, Mn 12 0])
 (.ret))
 (.skip)))
 (.seq (.seq (.region [I 64 (.loadn 2) [T 18], Mv 65 3, Mv 66 4, Kc 67 [F 258, T 64, T 65, T 66], I 68 (.un .not) [T 67]])
 (.cond (T 68)
 (.seq (.region [Mn 10 3, Mn 11 0, Mn 12 0])
 (.ret))
 (.skip)))
 (.seq (.region [I 19 .mv [.lit (.int .u64 64)]])
 (.seq (.seq (.region [Mv 69 3, Bi 70 .eql (T 69) (N 2)])
 (.cond (T 70)
 (.region [Mv 71 19, I 72 (.bin .or) [T 71, .lit (.int .u64 128)], Mv 19 72])
 (.skip)))
 (.seq (.region [Mv 74 0, Mv 75 15, Mv 76 16, Kc 77 [F 273, T 74, T 75, T 76], Mv 73 77, Xt 78 0 73, Xt 79 1 73, Mv 20 78, Mv 21 79])
 (.seq (.region [Mv 80 0, Mv 81 15, Mv 82 16, Mv 83 20, Mv 84 19, Bi 85 .or (T 83) (T 84), Kc 86 [F 276, T 80, T 81, T 82, T 85]])
 (.seq (.draw [[⟨0, Fa 87 1 18, [], false⟩, ⟨1, Ld 88 87, [], false⟩, ⟨2, Mv 89 14, [], false⟩, ⟨3, Mn 10 0, [], false⟩, ⟨4, Mv 11 88, [], false⟩, ⟨5, Mv 12 89, [], false⟩]])
 (.ret)))))))))))))⟩
abbrev n_pmap_Map_Root : Nat := 260
def c_pmap_Map_Root : AFn := ⟨10, [.tmp 2], .seq (.region [Mn 2 0])
 (.seq (.seq (.region [Mv 3 0, Kc 4 [F 178, T 3], I 5 (.un .not) [T 4]])
 (.cond (T 5)
 (.seq (.region [Mn 2 (-1)])
 (.ret))
 (.skip)))
 (.seq (.region [Mv 6 0, Nc 7 6, Fa 8 3 7, Ld 9 8, Mv 2 9])
 (.ret)))⟩
abbrev n_walk_Look : Nat := 261
def c_walk_Look : AFn := ⟨26, [.cell 6 (.loadn 2), .tmp 7], .seq (.region [I 6 (.alloc 204 2 (.vals [Zi, Zi])) [], I 7 .mv [Tf]])
 (.seq (.region [Mv 12 0, Mv 13 1, Mv 14 2, Kc 15 [F 318, T 12, T 13, T 14], Mv 11 15, Xt 16 0 11, Xt 17 1 11, Xt 18 2 11, Mv 8 16, Mv 9 17, Mv 10 18])
 (.seq (.seq (.region [Mv 19 10, I 20 (.un .not) [T 19]])
 (.cond (T 20)
 (.seq (.region [I 21 (.build (.agg [Zi, Zi]) []) [], J (.store 2) [T 6, T 21], I 7 .mv [Tf]])
 (.ret))
 (.skip)))
 (.seq (.region [Mv 22 0, Mv 23 8, Mv 24 9, Kc 25 [F 315, T 22, T 23, T 24], J (.store 2) [T 6, T 25], I 7 .mv [Tt]])
 (.ret))))⟩
abbrev n_tlb_Table_Put : Nat := 262
def c_tlb_Table_Put : AFn := ⟨57, [], .seq (.region [I 3 (.box 65 1) [T 0], I 4 (.box 207 2) [T 1], I 5 (.box 204 2) [T 2]])
 (.seq (.seq (.region [Ld 8 3, I 9 (.eqv false .ptr) [T 8, .lit .nilptr], Mv 10 9, IG 11 .load1 [T 3] 10 false, IG 12 .nilCheck [T 11] 10 false, IG 13 (.fieldAddr 2) [T 12] 10 false, IG 14 .load1 [T 13] 10 false, IG 15 (.eqv false .map) [T 14, .lit .nilmap] 10 false, I 16 .pick [T 10, Tt, T 15]])
 (.cond (T 16)
 (.ret)
 (.skip)))
 (.seq (.seq (.draw [[⟨0, Ld 18 3, [], false⟩, ⟨1, Nc 19 18, [], false⟩, ⟨2, Fa 20 2 19, [], false⟩, ⟨3, Ld 21 20, [], false⟩, ⟨4, I 22 (.loadn 2) [T 4], [], false⟩, ⟨5, I 23 (.lookup (.flat [.int, .int]) (.agg [Zi, Zi]) true) [T 21, T 22], [], false⟩, ⟨6, Mv 17 23, [], false⟩, ⟨7, Xt 24 0 17, [], false⟩, ⟨8, Xt 25 1 17, [], false⟩, ⟨9, I 6 (.alloc 204 2 (.vals [Zi, Zi])) [], [(0, Ld 18 3), (3, Ld 21 20), (4, I 22 (.loadn 2) [T 4]), (5, I 23 (.lookup (.flat [.int, .int]) (.agg [Zi, Zi]) true) [T 21, T 22])], false⟩, ⟨10, J (.store 2) [T 6, T 24], [], false⟩, ⟨11, Mv 7 25, [], false⟩]])
 (.seq (.region [Mv 26 7, I 27 (.un .not) [T 26]])
 (.cond (T 27)
 (.draw [[⟨0, Ld 28 3, [], false⟩, ⟨1, Ld 29 3, [], false⟩, ⟨2, Nc 30 29, [], false⟩, ⟨3, Fa 31 1 30, [], false⟩, ⟨4, Ld 32 31, [], false⟩, ⟨5, I 33 (.loadn 2) [T 4], [], false⟩, ⟨6, I 34 (.bslice 207 2 1 (.vals [Zi, Zi]) [0]) [T 33], [(0, Ld 28 3), (1, Ld 29 3), (4, Ld 32 31)], false⟩, ⟨7, I 35 (.append 207 2 16 (.vals [Zi, Zi])) [T 32, T 34], [(0, Ld 28 3)], false⟩, ⟨8, Nc 36 28, [], false⟩, ⟨9, Fa 37 1 36, [], false⟩, ⟨10, J (.store 1) [T 37, T 35], [], false⟩]])
 (.skip))))
 (.seq (.draw [[⟨0, Ld 38 3, [], false⟩, ⟨1, Nc 39 38, [], false⟩, ⟨2, Fa 40 2 39, [], false⟩, ⟨3, Ld 41 40, [], false⟩, ⟨4, I 42 (.loadn 2) [T 4], [], false⟩, ⟨5, I 43 (.loadn 2) [T 5], [], false⟩, ⟨6, J (.mapput (.flat [.int, .int])) [T 41, T 42, T 43], [], false⟩]])
 (.seq (.draw [[⟨0, Ld 44 3, [], false⟩, ⟨1, Nc 45 44, [], false⟩, ⟨2, Fa 46 1 45, [], false⟩, ⟨3, Ld 47 46, [], false⟩, ⟨4, I 48 .lens [T 47], [], false⟩, ⟨5, Ld 49 3, [], false⟩, ⟨6, Nc 50 49, [], false⟩, ⟨7, Fa 51 0 50, [], false⟩, ⟨8, Ld 52 51, [], false⟩, ⟨9, Bi 53 .gtr (T 48) (T 52), [], false⟩]])
 (.cond (T 53)
 (.region [Ld 54 3, I 55 (.mkfunc 330 0) [T 3], Kc 56 [F 181, T 54, T 55]])
 (.skip))))))⟩
abbrev n_kern_Kernel_private : Nat := 263
def c_kern_Kernel_private : AFn := ⟨91, [.tmp 10, .tmp 11], .seq (.region [I 7 (.box 94 10) [T 2], Mn 10 0, Mn 11 0])
 (.seq (.region [Mv 17 0, Mv 18 1, Mv 19 3, Kc 20 [F 57, T 17, T 18, T 19], Mv 12 20])
 (.seq (.block 0 (.seq (.region [Mv 22 12, Bi 23 .gtr (T 22) (N 0), Mv 24 23, Mw 25 4 24 true, I 26 .pick [T 24, T 25, Tf], Mv 21 26])
 (.cond (T 21)
 (.seq (.region [Mv 27 0, Mv 28 1, Mv 29 3, Kc 30 [F 331, T 27, T 28, T 29], Xt 31 0 30, Xt 32 1 30, Mv 10 31, Mv 11 32])
 (.ret))
 (.seq (.region [Mv 34 12, Bi 35 .gtr (T 34) (N 0), Mv 33 35])
 (.cond (T 33)
 (.seq (.region [Mv 36 0, Mv 37 12, Kc 38 [F 332, T 36, T 37], Xt 39 0 38, Xt 40 1 38, Mv 10 39, Mv 11 40])
 (.ret))
 (.seq (.region [Fa 42 2 7, Ld 43 42, Bi 44 .eql (T 43) (N 0), Mv 41 44])
 (.cond (T 41)
 (.seq (.region [Mv 45 0, Mv 46 1, Mv 47 3, Kc 48 [F 333, T 45, T 46, T 47, N (-1)], Xt 49 0 48, Xt 50 1 48, Mv 10 49, Mv 11 50])
 (.ret))
 (.skip))))))))
 (.seq (.region [Mv 52 0, Fa 53 2 7, Ld 54 53, Fa 55 3 7, Ld 56 55, Mv 57 3, Bi 58 .add (T 56) (T 57), Fa 59 0 7, Ld 60 59, Bi 61 .sub (T 58) (T 60), Kc 62 [F 76, T 52, T 54, T 61], Mv 51 62, Xt 63 0 51, Xt 64 1 51, Xt 65 2 51, Mv 13 63, Mv 14 64, Mv 15 65])
 (.seq (.seq (.region [Mv 66 15, Bi 67 .neq (T 66) (N 0), Mv 68 67, Mw 69 4 68 false, IG 70 (.un .not) [T 69] 68 false, I 71 .pick [T 68, Tt, T 70]])
 (.cond (T 71)
 (.seq (.region [Mv 72 14, Mv 73 15, Mv 10 72, Mv 11 73])
 (.ret))
 (.skip)))
 (.seq (.seq (.region [Mv 74 1, Nc 75 74, Fa 76 2 75, Ld 77 76, Mv 78 3, Mv 79 14, Kc 80 [F 264, T 77, T 78, T 79, N 1], Mv 16 80])
 (.seq (.region [Mv 81 16, Bi 82 .neq (T 81) (N 0)])
 (.cond (T 82)
 (.seq (.region [Mv 83 16, Mn 10 (-1), Mv 11 83])
 (.ret))
 (.skip))))
 (.seq (.region [Mv 84 0, Mv 85 1, Mv 86 3, Mv 87 14, Kc 88 [F 333, T 84, T 85, T 86, T 87], Xt 89 0 88, Xt 90 1 88, Mv 10 89, Mv 11 90])
 (.ret)))))))⟩
abbrev n_pmap_Map_Enter : Nat := 264
def c_pmap_Map_Enter_L1 : ACode :=
 .seq (.region [Bi 92 .lss (T 91) (T 90)])
 (.seq (.cond (T 92)
 (.skip)
 (.exit 3))
 (.seq (.block 4 (.seq (.region [I 93 (.indexs 1) [T 89, T 91], Ld 94 93, Mv 19 94])
 (.region [Mv 95 19, Kc 96 [T 95]])))
 (.region [Bi 97 .add (T 91) (N 1), Mv 91 97])))
def c_pmap_Map_Enter_L0 : ACode :=
 .seq (.seq (.region [Mv 56 11, Bi 57 .gtr (T 56) (N 0)])
 (.cond (T 57)
 (.skip)
 (.exit 1)))
 (.seq (.block 2 (.seq (.region [Mv 60 9, Mv 61 1, Mv 62 11, Kc 63 [F 334, T 61, T 62], I 12 (.alloc 3 1 (.vals [Zi])) [], I 13 (.alloc 3 1 (.vals [Zi])) [], J (.store 1) [T 12, T 60], J (.store 1) [T 13, T 63]])
 (.seq (.region [Ld 65 4, Ld 66 12, Ld 67 13, Kc 68 [F 179, T 65, T 66, T 67], Mv 64 68, Xt 69 0 64, Xt 70 1 64, Mv 14 69, Mv 15 70])
 (.seq (.seq (.region [Mv 71 15, I 72 (.un .not) [T 71]])
 (.cond (T 72)
 (.seq (.draw [[⟨0, Ld 74 4, [], false⟩, ⟨1, Nc 75 74, [], false⟩, ⟨2, Fa 76 1 75, [], false⟩, ⟨3, Ld 77 76, [], false⟩, ⟨4, Ld 78 4, [], false⟩, ⟨5, Nc 79 78, [], false⟩, ⟨6, Fa 80 2 79, [], false⟩, ⟨7, Ld 81 80, [], false⟩, ⟨8, Mv 82 11, [], false⟩, ⟨9, Bi 83 .sub (N 3) (T 82), [], false⟩, ⟨10, Kc 84 [F 145, T 77, N 1, T 81, T 83], [], false⟩, ⟨11, Mv 73 84, [], false⟩, ⟨12, Xt 85 0 73, [], false⟩, ⟨13, Xt 86 1 73, [], false⟩, ⟨14, Mv 16 85, [], false⟩, ⟨15, Mv 17 86, [], false⟩]])
 (.seq (.seq (.region [Mv 87 17, Bi 88 .neq (T 87) (N 0)])
 (.cond (T 88)
 (.seq (.seq (.region [Mv 89 10, I 90 .lens [T 89], Mn 91 0])
 (.block 3 (.loop c_pmap_Map_Enter_L1)))
 (.seq (.region [Mv 98 17, Mv 8 98])
 (.ret)))
 (.skip)))
 (.seq (.region [Mv 99 16, Mv 14 99])
 (.seq (.region [Ld 100 4, Nc 101 100, Fa 102 0 101, Ld 103 102, Mv 104 16, Kc 105 [F 146, T 103, T 104]])
 (.seq (.draw [[⟨0, Ld 106 4, [], false⟩, ⟨1, Nc 107 106, [], false⟩, ⟨2, Fa 108 0 107, [], false⟩, ⟨3, Ld 109 108, [], false⟩, ⟨4, Ld 110 12, [], false⟩, ⟨5, Ld 111 13, [], false⟩, ⟨6, Mv 112 16, [], false⟩, ⟨7, I 113 (.build (.agg [Zi, Zi]) [(0, 1), (1, 1)]) [N 1, T 112], [], false⟩, ⟨8, Kc 114 [F 319, T 113], [(0, Ld 106 4), (3, Ld 109 108), (4, Ld 110 12), (5, Ld 111 13)], false⟩, ⟨9, Kc 115 [F 276, T 109, T 110, T 111, T 114], [], false⟩]])
 (.seq (.region [Ld 116 4, Nc 117 116, Fa 118 4 117, Ld 119 118, Bi 120 .add (T 119) (N 1), Nc 121 116, Fa 122 4 121, J (.store 1) [T 122, T 120]])
 (.region [Mv 123 10, I 124 (.mkfunc 335 0) [T 4, T 12, T 13], I 125 (.bslice 1 1 1 (.vals [.nilfunc]) [0]) [T 124], I 126 (.append 1 1 8 (.vals [.nilfunc])) [T 123, T 125], Mv 10 126])))))))
 (.skip)))
 (.region [Mv 127 14, Mv 9 127])))))
 (.region [Mv 58 11, Bi 59 .sub (T 58) (N 1), Mv 11 59]))
def c_pmap_Map_Enter : AFn := ⟨141, [.tmp 8], .seq (.region [I 4 (.box 97 1) [T 0], Mn 8 0])
 (.seq (.block 0 (.seq (.region [Ld 21 4, Kc 22 [F 178, T 21], I 23 (.un .not) [T 22], Mv 20 23])
 (.cond (T 20)
 (.seq (.region [Mn 8 1])
 (.ret))
 (.seq (.region (Mv 25 1 ::
 Bi 26 .lss (T 25) (N 0) ::
 Mv 27 26 ::
 Mw 28 1 27 false ::
 IG 29 (.bin .geq) [T 28, N 67108864] 27 false ::
 I 30 .pick [T 27, Tt, T 29] ::
 Mv 31 30 ::
 Mw 32 3 31 false ::
 IG 33 (.bin .lss) [T 32, N 1] 31 false ::
 I 34 .pick [T 31, Tt, T 33] ::
 Mv 35 34 ::
 Mw 36 3 35 false ::
 IG 37 (.bin .gtr) [T 36, N 7] 35 false ::
 I 38 .pick [T 35, Tt, T 37] ::
 Mv 39 38 ::
 Mw 40 2 39 false ::
 IG 41 (.bin .lss) [T 40, N 0] 39 false ::
 I 42 .pick [T 39, Tt, T 41] ::
 Mv 43 42 ::
 Mw 44 2 43 false ::
 IG 45 .load1 [T 4] 43 false ::
 IG 46 .nilCheck [T 45] 43 false ::
 IG 47 (.fieldAddr 0) [T 46] 43 false ::
 IG 48 .load1 [T 47] 43 false ::
 IG 49 .callv [F 44, T 48] 43 false ::
 IG 50 (.bin .geq) [T 44, T 49] 43 false ::
 I 51 .pick [T 43, Tt, T 50] ::
 Mv 24 51 ::
 []))
 (.cond (T 24)
 (.seq (.region [Mn 8 2])
 (.ret))
 (.skip))))))
 (.seq (.region [Ld 52 4, Nc 53 52, Fa 54 3 53, Ld 55 54, Mv 9 55])
 (.seq (.region [I 10 .mv [.lit .nilsl]])
 (.seq (.seq (.region [Mn 11 2])
 (.block 1 (.loop c_pmap_Map_Enter_L0)))
 (.seq (.draw [[⟨0, Ld 128 4, [], false⟩, ⟨1, Nc 129 128, [], false⟩, ⟨2, Fa 130 0 129, [], false⟩, ⟨3, Ld 131 130, [], false⟩, ⟨4, Mv 132 9, [], false⟩, ⟨5, Mv 133 1, [], false⟩, ⟨7, Mv 135 3, [], false⟩, ⟨9, Mv 137 2, [], false⟩, ⟨6, Kc 134 [F 334, T 133, N 0], [(0, Ld 128 4), (3, Ld 131 130)], false⟩, ⟨8, Kc 136 [F 336, T 135, Tt], [(0, Ld 128 4), (3, Ld 131 130)], false⟩, ⟨10, I 138 (.build (.agg [Zi, Zi]) [(0, 1), (1, 1)]) [T 136, T 137], [], false⟩, ⟨11, Kc 139 [F 319, T 138], [(0, Ld 128 4), (3, Ld 131 130)], false⟩, ⟨12, Kc 140 [F 276, T 131, T 132, T 134, T 139], [], false⟩]])
 (.seq (.region [Mn 8 0])
 (.ret)))))))⟩
abbrev n_kern_Kernel_begin : Nat := 266
def c_kern_Kernel_begin_L0 : ACode :=
 .seq (.region [Bi 35 .lss (T 34) (T 33)])
 (.seq (.cond (T 35)
 (.skip)
 (.exit 0))
 (.seq (.block 1 (.seq (.region [I 36 (.indexs 6) [T 32, T 34], I 37 (.loadn 6) [T 36], I 12 (.alloc 168 6 (.vals [Zi, Zi, Zi, Zi, (.bool false), (.bool false)])) [], J (.store 6) [T 12, T 37]])
 (.seq (.region [Fa 38 1 12, Ld 39 38, Mv 40 2, Bi 41 .leq (T 39) (T 40)])
 (.cond (T 41)
 (.region [Fa 42 0 10, Ld 43 42, Fa 44 1 12, Ld 45 44, I 46 (.max) [T 43, T 45], Fa 47 0 10, J (.store 1) [T 47, T 46]])
 (.region [Fa 48 1 10, Ld 49 48, Fa 50 0 12, Ld 51 50, I 52 (.min) [T 49, T 51], Fa 53 1 10, J (.store 1) [T 53, T 52]])))))
 (.region [Bi 54 .add (T 34) (N 1), Mv 34 54])))
def c_kern_Kernel_begin : AFn := ⟨79, [.tmp 6, .tmp 7], .seq (.region [I 6 .mv [.lit .nilptr], Mn 7 0])
 (.seq (.region [Mv 16 1, Nc 17 16, Fa 18 1 17, Ld 19 18, Mv 20 2, Kc 21 [F 55, T 19, T 20], Mv 15 21, Xt 22 0 15, Xt 23 1 15, I 8 (.alloc 94 10 (.vals [Zi, Zi, Zi, Zi, (.bool false), Zi, Zi, Zi, Zi, (.bool false)])) [], J (.store 10) [T 8, T 22], Mv 9 23])
 (.seq (.region [Fa 24 0 8, Ld 25 24, Fa 26 1 8, Ld 27 26, I 28 (.build (.agg [Zi, Zi, Zi, Zi, (.bool false), (.bool false)]) [(0, 1), (1, 1)]) [T 25, T 27], I 10 (.alloc 168 6 (.vals [Zi, Zi, Zi, Zi, (.bool false), (.bool false)])) [], J (.store 6) [T 10, T 28]])
 (.seq (.seq (.region [Mv 29 1, Nc 30 29, Fa 31 3 30, Ld 32 31, I 33 .lens [T 32], Mn 34 0])
 (.block 0 (.loop c_kern_Kernel_begin_L0)))
 (.seq (.draw [[⟨0, Mv 56 0, [], false⟩, ⟨1, Nc 57 56, [], false⟩, ⟨2, Fa 58 6 57, [], false⟩, ⟨3, Ld 59 58, [], false⟩, ⟨4, Fa 60 1 10, [], false⟩, ⟨5, Ld 61 60, [], false⟩, ⟨6, Fa 62 0 10, [], false⟩, ⟨7, Ld 63 62, [], false⟩, ⟨8, Bi 64 .sub (T 61) (T 63), [], false⟩, ⟨9, Kc 65 [F 93, T 59, T 64], [], false⟩, ⟨10, Mv 55 65, [], false⟩, ⟨11, Xt 66 0 55, [], false⟩, ⟨12, Xt 67 1 55, [], false⟩, ⟨13, Mv 13 66, [], false⟩, ⟨14, Mv 14 67, [], false⟩]])
 (.seq (.seq (.region [Mv 68 14, Bi 69 .neq (T 68) (N 0)])
 (.cond (T 69)
 (.seq (.region [Mv 70 14, I 6 .mv [.lit .nilptr], Mv 7 70])
 (.ret))
 (.skip)))
 (.seq (.region [Mv 71 13, Fa 72 2 10, J (.store 1) [T 72, T 71]])
 (.seq (.region [Mv 73 1, I 74 (.loadn 6) [T 10], Kc 75 [F 96, T 73, T 74]])
 (.seq (.region [Mv 76 1, Mv 77 2, Kc 78 [F 125, T 76, T 77], Mv 6 78, Mn 7 0])
 (.ret)))))))))⟩
abbrev n_amap_Pool_Cover : Nat := 267
def c_amap_Pool_Cover : AFn := ⟨20, [.tmp 6], .seq (.region [Mn 6 0])
 (.seq (.region [Mv 8 0, Mv 9 1, Kc 10 [F 228, T 8, T 9], Mv 7 10])
 (.seq (.seq (.region [Mv 11 7, I 12 (.eqv false .ptr) [T 11, .lit .nilptr]])
 (.cond (T 12)
 (.seq (.region [Mn 6 0])
 (.ret))
 (.skip)))
 (.seq (.region [Mv 13 7, Nc 14 13, Fa 15 0 14, Ld 16 15, Mv 17 2, Kc 18 [F 337, T 16, T 17], I 19 (.max) [T 18, N 0], Mv 6 19])
 (.ret))))⟩
abbrev n_amap_Pool_known : Nat := 270
def c_amap_Pool_known : AFn := ⟨16, [.tmp 4, .tmp 5], .seq (.region [I 4 .mv [.lit .nilptr], Mn 5 0])
 (.seq (.seq (.region [Mv 7 0, Kc 8 [F 184, T 7], I 9 (.un .not) [T 8]])
 (.cond (T 9)
 (.seq (.region [I 4 .mv [.lit .nilptr], Mn 5 1])
 (.ret))
 (.skip)))
 (.seq (.region [Mv 10 0, Mv 11 1, Kc 12 [F 228, T 10, T 11], Mv 6 12])
 (.seq (.seq (.region [Mv 13 6, I 14 (.eqv false .ptr) [T 13, .lit .nilptr]])
 (.cond (T 14)
 (.seq (.region [I 4 .mv [.lit .nilptr], Mn 5 7])
 (.ret))
 (.skip)))
 (.seq (.region [Mv 15 6, Mv 4 15, Mn 5 0])
 (.ret)))))⟩
abbrev n_phys_Memory_Word : Nat := 273
def c_phys_Memory_Word_L0 : ACode :=
 .seq (.seq (.region [Mv 20 10, Bi 21 .geq (T 20) (N 0)])
 (.cond (T 21)
 (.skip)
 (.exit 0)))
 (.seq (.block 1 (.region [Mv 24 9, I 25 (.bin .shl) [T 24, .lit (.int .u64 8)], Mv 26 8, Mv 27 10, I 28 (.indexs 1) [T 26, T 27], Ld 29 28, I 30 (.conv .u64) [T 29], Bi 31 .or (T 25) (T 30), Mv 9 31]))
 (.region [Mv 22 10, Bi 23 .sub (T 22) (N 1), Mv 10 23]))
def c_phys_Memory_Word : AFn := ⟨33, [.tmp 6, .tmp 7], .seq (.region [I 6 .mv [.lit (.int .u64 0)], I 7 .mv [Tf]])
 (.seq (.region [Mv 11 0, Mv 12 1, Mv 13 2, Kc 14 [F 340, T 11, T 12, T 13], Mv 8 14])
 (.seq (.seq (.region [Mv 15 8, I 16 (.eqv false .slice) [T 15, .lit .nilsl]])
 (.cond (T 16)
 (.seq (.region [I 6 .mv [.lit (.int .u64 0)], I 7 .mv [Tf]])
 (.ret))
 (.skip)))
 (.seq (.region [I 9 .mv [.lit (.int .u64 0)]])
 (.seq (.seq (.region [Mv 17 8, I 18 .lens [T 17], Bi 19 .sub (T 18) (N 1), Mv 10 19])
 (.block 0 (.loop c_phys_Memory_Word_L0)))
 (.seq (.region [Mv 32 9, Mv 6 32, I 7 .mv [Tt]])
 (.ret))))))⟩
abbrev n_pte_Decode : Nat := 274
def c_pte_Decode : AFn := ⟨11, [.cell 2 (.loadn 2)], .seq (.region [I 2 (.alloc 204 2 (.vals [Zi, Zi])) []])
 (.seq (.region [Mv 3 0, Kc 4 [F 341, T 3, N 8], I 5 (.conv .i64) [T 4], Mv 6 0, I 7 (.bin .shr) [T 6, .lit (.int .u64 10)], Kc 8 [F 341, T 7, N 44], I 9 (.conv .i64) [T 8], I 10 (.build (.agg [Zi, Zi]) [(0, 1), (1, 1)]) [T 5, T 9], J (.store 2) [T 2, T 10]])
 (.ret))⟩
abbrev n_pte_Kind : Nat := 275
def c_pte_Kind : AFn := ⟨19, [.tmp 2], .seq (.region [I 1 (.box 204 2) [T 0], Mn 2 0])
 (.seq (.block 0 (.seq (.region [Fa 4 0 1, Ld 5 4, Bi 6 .and (T 5) (N 1), Bi 7 .eql (T 6) (N 0), Mv 8 7, IG 9 (.fieldAddr 0) [T 1] 8 false, IG 10 .load1 [T 9] 8 false, IG 11 (.bin .and) [T 10, N 6] 8 false, IG 12 (.bin .eql) [T 11, N 4] 8 false, I 13 .pick [T 8, Tt, T 12], Mv 3 13])
 (.cond (T 3)
 (.seq (.region [Mn 2 0])
 (.ret))
 (.seq (.region [Fa 15 0 1, Ld 16 15, Bi 17 .and (T 16) (N 10), Bi 18 .eql (T 17) (N 0), Mv 14 18])
 (.cond (T 14)
 (.seq (.region [Mn 2 1])
 (.ret))
 (.skip))))))
 (.seq (.region [Mn 2 2])
 (.ret)))⟩
abbrev n_phys_Memory_SetWord : Nat := 276
def c_phys_Memory_SetWord_L0 : ACode :=
 .seq (.region [Bi 20 .lss (T 19) (T 18)])
 (.seq (.cond (T 20)
 (.skip)
 (.exit 0))
 (.seq (.block 1 (.seq (.region [Mv 21 19, Mv 10 21])
 (.seq (.region [Mv 22 9, Mv 23 10, Mv 24 3, I 25 (.conv .u8) [T 24], I 26 (.indexs 1) [T 22, T 23], J (.store 1) [T 26, T 25]])
 (.region [Mv 27 3, I 28 (.bin .shr) [T 27, .lit (.int .u64 8)], Mv 3 28]))))
 (.region [Bi 29 .add (T 19) (N 1), Mv 19 29])))
def c_phys_Memory_SetWord : AFn := ⟨30, [.tmp 8], .seq (.region [I 8 .mv [Tf]])
 (.seq (.region [Mv 11 0, Mv 12 1, Mv 13 2, Kc 14 [F 340, T 11, T 12, T 13], Mv 9 14])
 (.seq (.seq (.region [Mv 15 9, I 16 (.eqv false .slice) [T 15, .lit .nilsl]])
 (.cond (T 16)
 (.seq (.region [I 8 .mv [Tf]])
 (.ret))
 (.skip)))
 (.seq (.seq (.region [Mv 17 9, I 18 .lens [T 17], Mn 19 0])
 (.block 0 (.loop c_phys_Memory_SetWord_L0)))
 (.seq (.region [I 8 .mv [Tt]])
 (.ret)))))⟩
abbrev n_spread_Counts_Grow : Nat := 277
def c_spread_Counts_Grow : AFn := ⟨47, [.tmp 4], .seq (.region [Mn 4 0])
 (.seq (.block 0 (.seq (.region [Mv 6 0, Kc 7 [F 278, T 6], I 8 (.un .not) [T 7], Mv 5 8])
 (.cond (T 5)
 (.seq (.region [Mn 4 1])
 (.ret))
 (.seq (.region [Mv 10 1, Mv 11 0, Nc 12 11, Fa 13 1 12, Ld 14 13, Bi 15 .lss (T 10) (T 14), Mv 16 15, Mw 17 1 16 false, IG 18 (.bin .gtr) [T 17, N 4096] 16 false, I 19 .pick [T 16, Tt, T 18], Mv 9 19])
 (.cond (T 9)
 (.seq (.region [Mn 4 2])
 (.ret))
 (.skip))))))
 (.seq (.seq (.region [Mv 20 1, Mv 21 0, Nc 22 21, Fa 23 1 22, Ld 24 23, Bi 25 .gtr (T 20) (T 24)])
 (.cond (T 25)
 (.draw [[⟨0, Mv 26 0, [], false⟩, ⟨1, Mv 27 0, [], false⟩, ⟨2, Nc 28 27, [], false⟩, ⟨3, Fa 29 0 28, [], false⟩, ⟨4, Ld 30 29, [], false⟩, ⟨6, Mv 32 0, [], false⟩, ⟨7, Nc 33 32, [], false⟩, ⟨8, Fa 34 1 33, [], false⟩, ⟨9, Ld 35 34, [], false⟩, ⟨10, Mv 36 1, [], false⟩, ⟨11, I 37 (.build (.agg [Zi, Zi, Zi]) [(0, 1), (1, 1)]) [T 35, T 36], [], false⟩, ⟨5, Kc 31 [F 281, T 30], [(9, Ld 35 34)], false⟩, ⟨12, I 38 (.bslice 323 3 1 (.vals [Zi, Zi, Zi]) [0]) [T 37], [(4, Ld 30 29)], false⟩, ⟨13, I 39 (.append 323 3 24 (.vals [Zi, Zi, Zi])) [T 31, T 38], [], false⟩, ⟨14, Kc 40 [F 282, T 39], [], false⟩, ⟨15, Nc 41 26, [], false⟩, ⟨16, Fa 42 0 41, [], false⟩, ⟨17, J (.store 1) [T 42, T 40], [], false⟩],
[⟨0, Mv 26 0, [], false⟩, ⟨1, Mv 27 0, [], false⟩, ⟨2, Nc 28 27, [], false⟩, ⟨3, Fa 29 0 28, [], false⟩, ⟨4, Ld 30 29, [], false⟩, ⟨6, Mv 32 0, [], false⟩, ⟨7, Nc 33 32, [], false⟩, ⟨8, Fa 34 1 33, [], false⟩, ⟨9, Ld 35 34, [], false⟩, ⟨10, Mv 36 1, [], false⟩, ⟨11, I 37 (.build (.agg [Zi, Zi, Zi]) [(0, 1), (1, 1)]) [T 35, T 36], [], false⟩, ⟨12, I 38 (.bslice 323 3 1 (.vals [Zi, Zi, Zi]) [0]) [T 37], [(4, Ld 30 29)], false⟩, ⟨5, Kc 31 [F 281, T 30], [(9, Ld 35 34)], false⟩, ⟨13, I 39 (.append 323 3 24 (.vals [Zi, Zi, Zi])) [T 31, T 38], [], false⟩, ⟨14, Kc 40 [F 282, T 39], [], false⟩, ⟨15, Nc 41 26, [], false⟩, ⟨16, Fa 42 0 41, [], false⟩, ⟨17, J (.store 1) [T 42, T 40], [], false⟩]])
 (.skip)))
 (.seq (.region [Mv 43 0, Mv 44 1, Nc 45 43, Fa 46 1 45, J (.store 1) [T 46, T 44]])
 (.seq (.region [Mn 4 0])
 (.ret)))))⟩
abbrev n_spread_Counts_made : Nat := 278
def c_spread_Counts_made : AFn := ⟨11, [.tmp 2], .seq (.region [I 2 .mv [Tf]])
 (.seq (.region [Mv 3 0, I 4 (.eqv true .ptr) [T 3, .lit .nilptr], Mv 5 4, Mw 6 0 5 true, IG 7 .nilCheck [T 6] 5 true, IG 8 (.fieldAddr 2) [T 7] 5 true, IG 9 .load1 [T 8] 5 true, I 10 .pick [T 5, T 9, Tf], Mv 2 10])
 (.ret))⟩
abbrev n_spread_Counts_parts : Nat := 279
def c_spread_Counts_parts : AFn := ⟨8, [.tmp 6], .seq (.region [I 3 (.box 247 1) [T 0], I 4 (.box 3 1) [T 1], I 5 (.box 3 1) [T 2], I 6 .mv [.lit .nilfunc]])
 (.seq (.region [I 7 (.mkfunc 342 0) [T 3, T 4, T 5], Mv 6 7])
 (.ret))⟩
abbrev n_spread_split : Nat := 280
def c_spread_split : AFn := ⟨39, [.tmp 4], .seq (.region [I 3 (.box 3 1) [T 1], I 4 .mv [.lit .nilsl]])
 (.seq (.region [Mv 8 0, I 9 (.mkfunc 344 0) [T 3], Kc 10 [F 343, T 8, T 9], Mv 5 10])
 (.seq (.seq (.region [Mv 11 5, Bi 12 .lss (T 11) (N 0)])
 (.cond (T 12)
 (.seq (.region [Mv 13 0, Mv 4 13])
 (.ret))
 (.skip)))
 (.seq (.draw [[⟨0, Mv 14 0, [], false⟩, ⟨1, Mv 15 5, [], false⟩, ⟨2, I 16 (.indexs 3) [T 14, T 15], [], false⟩, ⟨3, I 17 (.loadn 3) [T 16], [], false⟩, ⟨4, Mv 18 0, [], false⟩, ⟨5, Mv 19 5, [], false⟩, ⟨6, I 20 (.indexs 3) [T 18, T 19], [], false⟩, ⟨7, I 21 (.loadn 3) [T 20], [], false⟩, ⟨8, I 6 (.alloc 323 3 (.vals [Zi, Zi, Zi])) [], [(3, I 17 (.loadn 3) [T 16]), (7, I 21 (.loadn 3) [T 20])], false⟩, ⟨9, I 7 (.alloc 323 3 (.vals [Zi, Zi, Zi])) [], [(3, I 17 (.loadn 3) [T 16]), (7, I 21 (.loadn 3) [T 20])], false⟩, ⟨10, J (.store 3) [T 6, T 17], [(7, I 21 (.loadn 3) [T 20])], false⟩, ⟨11, J (.store 3) [T 7, T 21], [], false⟩],
[⟨0, Mv 14 0, [], false⟩, ⟨1, Mv 15 5, [], false⟩, ⟨2, I 16 (.indexs 3) [T 14, T 15], [], false⟩, ⟨3, I 17 (.loadn 3) [T 16], [], false⟩, ⟨4, Mv 18 0, [], false⟩, ⟨5, Mv 19 5, [], false⟩, ⟨6, I 20 (.indexs 3) [T 18, T 19], [], false⟩, ⟨7, I 21 (.loadn 3) [T 20], [], false⟩, ⟨9, I 7 (.alloc 323 3 (.vals [Zi, Zi, Zi])) [], [(3, I 17 (.loadn 3) [T 16]), (7, I 21 (.loadn 3) [T 20])], false⟩, ⟨8, I 6 (.alloc 323 3 (.vals [Zi, Zi, Zi])) [], [(3, I 17 (.loadn 3) [T 16]), (7, I 21 (.loadn 3) [T 20])], false⟩, ⟨10, J (.store 3) [T 6, T 17], [(7, I 21 (.loadn 3) [T 20])], false⟩, ⟨11, J (.store 3) [T 7, T 21], [], false⟩]])
 (.seq (.draw [[⟨0, Ld 22 3, [], false⟩, ⟨1, Ld 23 3, [], false⟩, ⟨2, Fa 24 1 6, [], false⟩, ⟨3, J (.store 1) [T 24, T 22], [(1, Ld 23 3)], false⟩, ⟨4, Fa 25 0 7, [], false⟩, ⟨5, J (.store 1) [T 25, T 23], [], false⟩]])
 (.seq (.draw [[⟨0, Mv 26 0, [], false⟩, ⟨1, Mv 27 5, [], false⟩, ⟨2, Mv 28 5, [], false⟩, ⟨3, I 29 (.slice 3 false true true) [T 26, T 27, T 28], [], false⟩, ⟨4, I 30 (.loadn 3) [T 6], [], false⟩, ⟨5, I 31 (.loadn 3) [T 7], [], false⟩, ⟨7, Mv 33 0, [], false⟩, ⟨8, Mv 34 5, [], false⟩, ⟨9, Bi 35 .add (T 34) (N 1), [], false⟩, ⟨10, I 36 (.slice 3 true false false) [T 33, T 35], [], false⟩, ⟨6, I 32 (.bslice 323 3 2 (.vals [Zi, Zi, Zi]) [0, 1]) [T 30, T 31], [], false⟩, ⟨11, I 37 (.bslice 320 1 3 (.vals [.nilsl]) [0, 1, 2]) [T 29, T 32, T 36], [], false⟩, ⟨12, Kc 38 [F 345, T 37], [], false⟩, ⟨13, Mv 4 38, [], false⟩]])
 (.ret))))))⟩
abbrev n_slices_Clone_api_Run_api_Run : Nat := 281
def c_slices_Clone_api_Run_api_Run : AFn := ⟨8, [.tmp 2], .seq (.region [I 2 .mv [.lit .nilsl]])
 (.seq (.seq (.region [Mv 3 0, I 4 (.eqv false .slice) [T 3, .lit .nilsl]])
 (.cond (T 4)
 (.seq (.region [I 2 .mv [.lit .nilsl]])
 (.ret))
 (.skip)))
 (.seq (.region [I 5 (.bslice 323 3 0 (.vals [Zi, Zi, Zi]) []) [], Mv 6 0, I 7 (.append 323 3 24 (.vals [Zi, Zi, Zi])) [T 5, T 6], Mv 2 7])
 (.ret)))⟩
abbrev n_spread_join : Nat := 282
def c_spread_join_L0 : ACode :=
 .seq (.region [Bi 10 .lss (T 9) (T 8)])
 (.seq (.cond (T 10)
 (.skip)
 (.exit 0))
 (.seq (.block 1 (.seq (.region [I 11 (.indexs 3) [T 7, T 9], I 12 (.loadn 3) [T 11], I 5 (.alloc 323 3 (.vals [Zi, Zi, Zi])) [], J (.store 3) [T 5, T 12]])
 (.seq (.region [Mv 13 3, I 14 .lens [T 13], Bi 15 .sub (T 14) (N 1), Mv 6 15])
 (.seq (.draw [[⟨0, Mv 16 6, [], false⟩, ⟨1, Bi 17 .geq (T 16) (N 0), [], false⟩, ⟨2, Mv 18 17, [], false⟩, ⟨3, Mw 19 3 18 true, [], false⟩, ⟨4, Mw 20 6 18 true, [], false⟩, ⟨5, IG 21 (.indexs 3) [T 19, T 20] 18 true, [], false⟩, ⟨6, IG 22 (.fieldAddr 2) [T 21] 18 true, [], false⟩, ⟨7, IG 23 .load1 [T 22] 18 true, [], false⟩, ⟨8, IG 24 (.fieldAddr 2) [T 5] 18 true, [], false⟩, ⟨9, IG 25 .load1 [T 24] 18 true, [], false⟩, ⟨10, IG 26 (.bin .eql) [T 23, T 25] 18 true, [], false⟩, ⟨11, I 27 .pick [T 18, T 26, Tf], [], false⟩]])
 (.cond (T 27)
 (.region [Mv 28 3, Mv 29 6, Fa 30 1 5, Ld 31 30, I 32 (.indexs 3) [T 28, T 29], Fa 33 1 32, J (.store 1) [T 33, T 31]])
 (.region [Mv 34 3, I 35 (.loadn 3) [T 5], I 36 (.bslice 323 3 1 (.vals [Zi, Zi, Zi]) [0]) [T 35], I 37 (.append 323 3 24 (.vals [Zi, Zi, Zi])) [T 34, T 36], Mv 3 37]))))))
 (.region [Bi 38 .add (T 9) (N 1), Mv 9 38])))
def c_spread_join : AFn := ⟨40, [.tmp 2], .seq (.region [I 2 .mv [.lit .nilsl]])
 (.seq (.region [I 3 .mv [.lit .nilsl]])
 (.seq (.seq (.region [Mv 7 0, I 8 .lens [T 7], Mn 9 0])
 (.block 0 (.loop c_spread_join_L0)))
 (.seq (.region [Mv 39 3, Mv 2 39])
 (.ret))))⟩
abbrev n_frames_Pool_Own_1 : Nat := 284
def c_frames_Pool_Own_1 : AFn := ⟨24, [.tmp 5], .seq (.region [Mn 5 0])
 (.seq (.seq (.region [Ld 6 1, Bi 7 .lss (T 6) (N 1), Mv 8 7, IG 9 .load1 [T 1] 8 false, IG 10 (.bin .gtr) [T 9, N 4] 8 false, I 11 .pick [T 8, Tt, T 10]])
 (.cond (T 11)
 (.seq (.region [Mn 5 2])
 (.ret))
 (.skip)))
 (.seq (.draw [[⟨0, Mv 12 0, [], false⟩, ⟨1, Mv 13 0, [], false⟩, ⟨2, Mv 14 0, [], false⟩, ⟨3, Ld 15 1, [], false⟩, ⟨4, Ld 16 2, [], false⟩, ⟨5, Ld 17 3, [], false⟩, ⟨6, Nc 18 12, [], false⟩, ⟨7, Fa 19 0 18, [], false⟩, ⟨8, J (.store 1) [T 19, T 15], [(4, Ld 16 2), (5, Ld 17 3)], false⟩, ⟨9, Nc 20 13, [], false⟩, ⟨10, Fa 21 1 20, [], false⟩, ⟨11, J (.store 1) [T 21, T 16], [(5, Ld 17 3)], false⟩, ⟨12, Nc 22 14, [], false⟩, ⟨13, Fa 23 2 22, [], false⟩, ⟨14, J (.store 1) [T 23, T 17], [], false⟩]])
 (.seq (.region [Mn 5 0])
 (.ret))))⟩
abbrev n_pmap_Map_Remove : Nat := 290
def c_pmap_Map_Remove : AFn := ⟨8, [.tmp 4], .seq (.region [I 4 .mv [Tf]])
 (.seq (.region [Mv 5 0, Mv 6 1, Kc 7 [F 241, T 5, T 6, F 348], Mv 4 7])
 (.ret))⟩
abbrev n_slices_insertionSortOrdered_int : Nat := 297
def c_slices_insertionSortOrdered_int_L1 : ACode :=
 .seq (.seq (.draw [[⟨0, Mv 16 7, [], false⟩, ⟨1, Mv 17 1, [], false⟩, ⟨2, Bi 18 .gtr (T 16) (T 17), [], false⟩, ⟨3, Mv 19 18, [], false⟩, ⟨4, Mw 20 0 19 true, [], false⟩, ⟨5, Mw 21 7 19 true, [], false⟩, ⟨6, IG 22 (.indexs 1) [T 20, T 21] 19 true, [], false⟩, ⟨7, IG 23 .load1 [T 22] 19 true, [], false⟩, ⟨8, Mw 24 0 19 true, [], false⟩, ⟨9, Mw 25 7 19 true, [], false⟩, ⟨10, IG 26 (.bin .sub) [T 25, N 1] 19 true, [], false⟩, ⟨11, IG 27 (.indexs 1) [T 24, T 26] 19 true, [], false⟩, ⟨12, IG 28 .load1 [T 27] 19 true, [], false⟩, ⟨13, IG 29 .callv [F 303, T 23, T 28] 19 true, [], false⟩, ⟨14, I 30 .pick [T 19, T 29, Tf], [], false⟩]])
 (.cond (T 30)
 (.skip)
 (.exit 2)))
 (.seq (.block 3 (.draw [[⟨0, Mv 33 0, [], false⟩, ⟨1, Mv 34 7, [], false⟩, ⟨2, Mv 35 0, [], false⟩, ⟨3, Mv 36 7, [], false⟩, ⟨4, Bi 37 .sub (T 36) (N 1), [], false⟩, ⟨5, Mv 38 0, [], false⟩, ⟨6, Mv 39 7, [], false⟩, ⟨7, Bi 40 .sub (T 39) (N 1), [], false⟩, ⟨8, I 41 (.indexs 1) [T 38, T 40], [], false⟩, ⟨9, Ld 42 41, [], false⟩, ⟨10, Mv 43 0, [], false⟩, ⟨11, Mv 44 7, [], false⟩, ⟨12, I 45 (.indexs 1) [T 43, T 44], [], false⟩, ⟨13, Ld 46 45, [], false⟩, ⟨14, I 47 (.indexs 1) [T 33, T 34], [], false⟩, ⟨15, J (.store 1) [T 47, T 42], [], false⟩, ⟨16, I 48 (.indexs 1) [T 35, T 37], [], false⟩, ⟨17, J (.store 1) [T 48, T 46], [], false⟩]]))
 (.region [Mv 31 7, Bi 32 .sub (T 31) (N 1), Mv 7 32]))
def c_slices_insertionSortOrdered_int_L0 : ACode :=
 .seq (.seq (.region [Mv 10 6, Mv 11 2, Bi 12 .lss (T 10) (T 11)])
 (.cond (T 12)
 (.skip)
 (.exit 0)))
 (.seq (.block 1 (.seq (.region [Mv 15 6, Mv 7 15])
 (.block 2 (.loop c_slices_insertionSortOrdered_int_L1))))
 (.region [Mv 13 6, Bi 14 .add (T 13) (N 1), Mv 6 14]))
def c_slices_insertionSortOrdered_int : AFn := ⟨49, [], .seq (.region [Mv 8 1, Bi 9 .add (T 8) (N 1), Mv 6 9])
 (.block 0 (.loop c_slices_insertionSortOrdered_int_L0))⟩
abbrev n_math_bits_Len64 : Nat := 307
def c_math_bits_Len64 : AFn := ⟨25, [.tmp 2], .seq (.region [Mn 2 0])
 (.seq (.seq (.region [Mv 3 0, I 4 (.bin .geq) [T 3, .lit (.int .u64 4294967296)]])
 (.cond (T 4)
 (.seq (.region [Mv 5 0, I 6 (.bin .shr) [T 5, .lit (.int .u64 32)], Mv 0 6])
 (.region [Mn 2 32]))
 (.skip)))
 (.seq (.seq (.region [Mv 7 0, I 8 (.bin .geq) [T 7, .lit (.int .u64 65536)]])
 (.cond (T 8)
 (.seq (.region [Mv 9 0, I 10 (.bin .shr) [T 9, .lit (.int .u64 16)], Mv 0 10])
 (.region [Mv 11 2, Bi 12 .add (T 11) (N 16), Mv 2 12]))
 (.skip)))
 (.seq (.seq (.region [Mv 13 0, I 14 (.bin .geq) [T 13, .lit (.int .u64 256)]])
 (.cond (T 14)
 (.seq (.region [Mv 15 0, I 16 (.bin .shr) [T 15, .lit (.int .u64 8)], Mv 0 16])
 (.region [Mv 17 2, Bi 18 .add (T 17) (N 8), Mv 2 18]))
 (.skip)))
 (.seq (.region [Mv 19 2, Mv 20 0, I 21 (.conv .u8) [T 20], I 22 (.indexstr) [.lit (.str ⟨#[0, 1, 2, 2, 3, 3, 3, 3, 4, 4, 4, 4, 4, 4, 4, 4, 5, 5, 5, 5, 5, 5, 5, 5, 5, 5, 5, 5, 5, 5, 5, 5, 6, 6, 6, 6, 6, 6, 6, 6, 6, 6, 6, 6, 6, 6, 6, 6, 6, 6, 6, 6, 6, 6, 6, 6, 6, 6, 6, 6, 6, 6, 6, 6, 7, 7, 7, 7, 7, 7, 7, 7, 7, 7, 7, 7, 7, 7, 7, 7, 7, 7, 7, 7, 7, 7, 7, 7, 7, 7, 7, 7, 7, 7, 7, 7, 7, 7, 7, 7, 7, 7, 7, 7, 7, 7, 7, 7, 7, 7, 7, 7, 7, 7, 7, 7, 7, 7, 7, 7, 7, 7, 7, 7, 7, 7, 7, 7, 8, 8, 8, 8, 8, 8, 8, 8, 8, 8, 8, 8, 8, 8, 8, 8, 8, 8, 8, 8, 8, 8, 8, 8, 8, 8, 8, 8, 8, 8, 8, 8, 8, 8, 8, 8, 8, 8, 8, 8, 8, 8, 8, 8, 8, 8, 8, 8, 8, 8, 8, 8, 8, 8, 8, 8, 8, 8, 8, 8, 8, 8, 8, 8, 8, 8, 8, 8, 8, 8, 8, 8, 8, 8, 8, 8, 8, 8, 8, 8, 8, 8, 8, 8, 8, 8, 8, 8, 8, 8, 8, 8, 8, 8, 8, 8, 8, 8, 8, 8, 8, 8, 8, 8, 8, 8, 8, 8, 8, 8, 8, 8, 8, 8, 8, 8, 8, 8, 8, 8, 8, 8, 8, 8, 8, 8, 8, 8]⟩), T 21], I 23 (.conv .i64) [T 22], Bi 24 .add (T 19) (T 23), Mv 2 24])
 (.ret)))))⟩
abbrev n_maps_Keys_map_int_kern_proc_int_kern_proc_1 : Nat := 312
def c_maps_Keys_map_int_kern_proc_int_kern_proc_1_L0 : ACode :=
 .seq (.region [I 6 (.next) [T 5], Xt 7 0 6])
 (.seq (.cond (T 7)
 (.skip)
 (.exit 0))
 (.block 1 (.seq (.region [I 8 (.entry) [T 5], Xt 9 0 8, Mv 3 9])
 (.seq (.region [Mv 10 0, Mv 11 3, Kc 12 [T 10, T 11], I 13 (.un .not) [T 12]])
 (.cond (T 13)
 (.ret)
 (.skip))))))
def c_maps_Keys_map_int_kern_proc_int_kern_proc_1 : AFn := ⟨14, [], .seq (.region [Ld 4 1, I 5 (.range) [T 4]])
 (.block 0 (.loop c_maps_Keys_map_int_kern_proc_int_kern_proc_1_L0))⟩
abbrev n_walk_Leaves_1 : Nat := 313
def c_walk_Leaves_1 : AFn := ⟨17, [], .seq (.region [I 3 (.box 292 1) [T 0]])
 (.seq (.region [I 4 (.alloc 351 1 (.vals [.nilfunc])) []])
 (.seq (.region [I 5 (.mkfunc 314 0) [T 1, T 3, T 4], J (.store 1) [T 4, T 5]])
 (.seq (.draw [[⟨0, Ld 6 2, [], false⟩, ⟨1, Bi 7 .geq (T 6) (N 0), [], false⟩, ⟨2, Mv 8 7, [], false⟩, ⟨3, IG 9 .load1 [T 2] 8 true, [], false⟩, ⟨4, IG 10 .load1 [T 1] 8 true, [], false⟩, ⟨5, IG 11 .callv [F 44, T 10] 8 true, [(3, IG 9 .load1 [T 2] 8 true)], false⟩, ⟨6, IG 12 (.bin .lss) [T 9, T 11] 8 true, [], false⟩, ⟨7, I 13 .pick [T 8, T 12, Tf], [], false⟩]])
 (.cond (T 13)
 (.region [Ld 14 4, Ld 15 2, Kc 16 [T 14, T 15, N 2, N 0]])
 (.skip)))))⟩
abbrev n_walk_Leaves_1_1 : Nat := 314
def c_walk_Leaves_1_1_L0 : ACode :=
 .seq (.region [Bi 16 .lss (T 15) (N 512)])
 (.seq (.cond (T 16)
 (.skip)
 (.exit 0))
 (.seq (.block 1 (.seq (.region [Mv 17 15, Mv 10 17])
 (.seq (.region [Mv 18 2, Bi 19 .mul (T 18) (N 512), Mv 20 10, Bi 21 .add (T 19) (T 20), Mv 11 21])
 (.seq (.seq (.region [Mv 22 1, Bi 23 .eql (T 22) (N 0)])
 (.cond (T 23)
 (.seq (.seq (.region [Ld 24 3, Mv 25 0, Mv 26 10, Kc 27 [F 315, T 24, T 25, T 26], I 12 (.alloc 204 2 (.vals [Zi, Zi])) [], J (.store 2) [T 12, T 27]])
 (.seq (.region [I 28 (.loadn 2) [T 12], Kc 29 [F 275, T 28], Bi 30 .eql (T 29) (N 2), Mv 31 30, IG 32 .load1 [T 4] 31 true, Mw 33 11 31 true, IG 34 (.loadn 2) [T 12] 31 true, IG 35 .callv [T 32, T 33, T 34] 31 true, IG 36 (.un .not) [T 35] 31 true, I 37 .pick [T 31, T 36, Tf]])
 (.cond (T 37)
 (.seq (.region [I 9 .mv [Tf]])
 (.ret))
 (.skip))))
 (.exit 1))
 (.skip)))
 (.seq (.region [Ld 39 3, Mv 40 0, Mv 41 10, Kc 42 [F 316, T 39, T 40, T 41], Mv 38 42, Xt 43 0 38, Xt 44 1 38, Mv 13 43, Mv 14 44])
 (.seq (.region [Mv 45 14, Mv 46 45, IG 47 .load1 [T 5] 46 true, Mw 48 13 46 true, Mw 49 1 46 true, IG 50 (.bin .sub) [T 49, N 1] 46 true, Mw 51 11 46 true, IG 52 .callv [T 47, T 48, T 50, T 51] 46 true, IG 53 (.un .not) [T 52] 46 true, I 54 .pick [T 46, T 53, Tf]])
 (.cond (T 54)
 (.seq (.region [I 9 .mv [Tf]])
 (.ret))
 (.skip))))))))
 (.region [Bi 55 .add (T 15) (N 1), Mv 15 55])))
def c_walk_Leaves_1_1 : AFn := ⟨56, [.tmp 9], .seq (.region [I 9 .mv [Tf]])
 (.seq (.seq (.region [Mn 15 0])
 (.block 0 (.loop c_walk_Leaves_1_1_L0)))
 (.seq (.region [I 9 .mv [Tt]])
 (.ret)))⟩
abbrev n_walk_read : Nat := 315
def c_walk_read : AFn := ⟨18, [.cell 6 (.loadn 2)], .seq (.region [I 6 (.alloc 204 2 (.vals [Zi, Zi])) []])
 (.seq (.region [Mv 10 0, Mv 11 1, Mv 12 2, Kc 13 [F 273, T 10, T 11, T 12], Mv 9 13, Xt 14 0 9, Xt 15 1 9, Mv 7 14, Mv 8 15])
 (.seq (.region [Mv 16 7, Kc 17 [F 274, T 16], J (.store 2) [T 6, T 17]])
 (.ret)))⟩
abbrev n_walk_below : Nat := 316
def c_walk_below : AFn := ⟨25, [.tmp 6, .tmp 7], .seq (.region [Mn 6 0, I 7 .mv [Tf]])
 (.seq (.region [Mv 9 0, Mv 10 1, Mv 11 2, Kc 12 [F 315, T 9, T 10, T 11], I 8 (.alloc 204 2 (.vals [Zi, Zi])) [], J (.store 2) [T 8, T 12]])
 (.seq (.draw [[⟨0, Fa 13 1 8, [], false⟩, ⟨1, Ld 14 13, [], false⟩, ⟨2, I 15 (.loadn 2) [T 8], [], false⟩, ⟨3, Kc 16 [F 275, T 15], [(1, Ld 14 13)], false⟩, ⟨4, Bi 17 .eql (T 16) (N 1), [], false⟩, ⟨5, Mv 18 17, [], false⟩, ⟨6, IG 19 (.fieldAddr 1) [T 8] 18 true, [], false⟩, ⟨7, IG 20 .load1 [T 19] 18 true, [], false⟩, ⟨8, Mw 21 0 18 true, [], false⟩, ⟨9, IG 22 .callv [F 44, T 21] 18 true, [(1, Ld 14 13), (7, IG 20 .load1 [T 19] 18 true)], false⟩, ⟨10, IG 23 (.bin .lss) [T 20, T 22] 18 true, [], false⟩, ⟨11, I 24 .pick [T 18, T 23, Tf], [], false⟩, ⟨12, Mv 6 14, [], false⟩, ⟨13, Mv 7 24, [], false⟩]])
 (.ret)))⟩
abbrev n_pmap_Map_Find : Nat := 317
def c_pmap_Map_Find : AFn := ⟨34, [.cell 4 (.loadn 2), .tmp 5], .seq (.region [I 4 (.alloc 204 2 (.vals [Zi, Zi])) [], I 5 .mv [Tf]])
 (.seq (.seq (.region [Mv 8 0, Kc 9 [F 178, T 8], I 10 (.un .not) [T 9]])
 (.cond (T 10)
 (.seq (.region [I 11 (.build (.agg [Zi, Zi]) []) [], J (.store 2) [T 4, T 11], I 5 .mv [Tf]])
 (.ret))
 (.skip)))
 (.seq (.draw [[⟨0, Mv 13 0, [], false⟩, ⟨1, Nc 14 13, [], false⟩, ⟨2, Fa 15 0 14, [], false⟩, ⟨3, Ld 16 15, [], false⟩, ⟨4, Mv 17 0, [], false⟩, ⟨5, Nc 18 17, [], false⟩, ⟨6, Fa 19 3 18, [], false⟩, ⟨7, Ld 20 19, [], false⟩, ⟨8, Mv 21 1, [], false⟩, ⟨9, Kc 22 [F 261, T 16, T 20, T 21], [], false⟩, ⟨10, Mv 12 22, [], false⟩, ⟨11, Xt 23 0 12, [], false⟩, ⟨12, Xt 24 1 12, [], false⟩, ⟨13, I 6 (.alloc 204 2 (.vals [Zi, Zi])) [], [(3, Ld 16 15), (7, Ld 20 19)], false⟩, ⟨14, J (.store 2) [T 6, T 23], [], false⟩, ⟨15, Mv 7 24, [], false⟩]])
 (.seq (.seq (.region [Mv 25 7, I 26 (.un .not) [T 25], Mv 27 26, IG 28 (.loadn 2) [T 6] 27 false, IG 29 .callv [F 275, T 28] 27 false, IG 30 (.bin .neq) [T 29, N 2] 27 false, I 31 .pick [T 27, Tt, T 30]])
 (.cond (T 31)
 (.seq (.region [I 32 (.build (.agg [Zi, Zi]) []) [], J (.store 2) [T 4, T 32], I 5 .mv [Tf]])
 (.ret))
 (.skip)))
 (.seq (.region [I 33 (.loadn 2) [T 6], J (.store 2) [T 4, T 33], I 5 .mv [Tt]])
 (.ret)))))⟩
abbrev n_walk_Place : Nat := 318
def c_walk_Place_L0 : ACode :=
 .seq (.block 1 (.seq (.seq (.region [Mv 32 10, Bi 33 .eql (T 32) (N 0)])
 (.cond (T 33)
 (.exit 0)
 (.skip)))
 (.seq (.region [Mv 35 0, Mv 36 9, Mv 37 2, Mv 38 10, Kc 39 [F 334, T 37, T 38], Kc 40 [F 316, T 35, T 36, T 39], Mv 34 40, Xt 41 0 34, Xt 42 1 34, Mv 11 41, Mv 12 42])
 (.seq (.seq (.region [Mv 43 12, I 44 (.un .not) [T 43]])
 (.cond (T 44)
 (.seq (.region [Mn 6 0, Mn 7 0, I 8 .mv [Tf]])
 (.ret))
 (.skip)))
 (.region [Mv 45 11, Mv 9 45])))))
 (.region [Mv 30 10, Bi 31 .sub (T 30) (N 1), Mv 10 31])
def c_walk_Place : AFn := ⟨49, [.tmp 6, .tmp 7, .tmp 8], .seq (.region [Mn 6 0, Mn 7 0, I 8 .mv [Tf]])
 (.seq (.seq (.region [Mv 13 1, Bi 14 .lss (T 13) (N 0), Mv 15 14, Mw 16 1 15 false, Mw 17 0 15 false, IG 18 .callv [F 44, T 17] 15 false, IG 19 (.bin .geq) [T 16, T 18] 15 false, I 20 .pick [T 15, Tt, T 19], Mv 21 20, Mw 22 2 21 false, IG 23 (.bin .lss) [T 22, N 0] 21 false, I 24 .pick [T 21, Tt, T 23], Mv 25 24, Mw 26 2 25 false, IG 27 (.bin .geq) [T 26, N 134217728] 25 false, I 28 .pick [T 25, Tt, T 27]])
 (.cond (T 28)
 (.seq (.region [Mn 6 0, Mn 7 0, I 8 .mv [Tf]])
 (.ret))
 (.skip)))
 (.seq (.region [Mv 29 1, Mv 9 29])
 (.seq (.skip)
 (.seq (.seq (.region [Mn 10 2])
 (.block 0 (.loop c_walk_Place_L0)))
 (.seq (.region [Mv 46 9, Mv 47 2, Kc 48 [F 334, T 47, N 0], Mv 6 46, Mv 7 48, I 8 .mv [Tt]])
 (.ret))))))⟩
abbrev n_pte_Encode : Nat := 319
def c_pte_Encode : AFn := ⟨13, [.tmp 2], .seq (.region [I 1 (.box 204 2) [T 0], I 2 .mv [.lit (.int .u64 0)]])
 (.seq (.draw [[⟨0, Fa 3 1 1, [], false⟩, ⟨1, Ld 4 3, [], false⟩, ⟨2, I 5 (.conv .u64) [T 4], [], false⟩, ⟨5, Fa 8 0 1, [], false⟩, ⟨6, Ld 9 8, [], false⟩, ⟨7, I 10 (.conv .u64) [T 9], [], false⟩, ⟨3, Kc 6 [F 341, T 5, N 44], [(6, Ld 9 8)], false⟩, ⟨4, I 7 (.bin .shl) [T 6, .lit (.int .u64 10)], [], false⟩, ⟨8, Kc 11 [F 341, T 10, N 8], [], false⟩, ⟨9, Bi 12 .or (T 7) (T 11), [], false⟩, ⟨10, Mv 2 12, [], false⟩]])
 (.ret))⟩
abbrev n_pmap_Map_tidy : Nat := 320
def c_pmap_Map_tidy : AFn := ⟨53, [], .seq (.region [Mv 10 1, Kc 11 [F 334, T 10, N 2], Mv 12 1, Kc 13 [F 334, T 12, N 1], Mv 4 11, Mv 5 13])
 (.seq (.region [Mv 15 0, Mv 16 0, Nc 17 16, Fa 18 3 17, Ld 19 18, Mv 20 4, Kc 21 [F 179, T 15, T 19, T 20], Mv 14 21, Xt 22 0 14, Xt 23 1 14, Mv 6 22, Mv 7 23])
 (.seq (.seq (.region [Mv 24 7, I 25 (.un .not) [T 24]])
 (.cond (T 25)
 (.ret)
 (.skip)))
 (.seq (.seq (.region [Mv 27 0, Mv 28 6, Mv 29 5, Kc 30 [F 179, T 27, T 28, T 29], Mv 26 30, Xt 31 0 26, Xt 32 1 26, Mv 8 31, Mv 9 32])
 (.seq (.region [Mv 33 9, Mv 34 33, Mw 35 0 34 true, Mw 36 8 34 true, IG 37 .callv [F 355, T 35, T 36] 34 true, I 38 .pick [T 34, T 37, Tf]])
 (.cond (T 38)
 (.region [Mv 39 0, Mv 40 6, Mv 41 5, Kc 42 [F 180, T 39, T 40, T 41]])
 (.skip))))
 (.seq (.region [Mv 43 0, Mv 44 6, Kc 45 [F 355, T 43, T 44]])
 (.cond (T 45)
 (.region [Mv 46 0, Mv 47 0, Nc 48 47, Fa 49 3 48, Ld 50 49, Mv 51 4, Kc 52 [F 180, T 46, T 50, T 51]])
 (.skip))))))⟩
abbrev n_maps_Keys_map_int_object_one_int_object_one_1 : Nat := 322
def c_maps_Keys_map_int_object_one_int_object_one_1_L0 : ACode :=
 .seq (.region [I 6 (.next) [T 5], Xt 7 0 6])
 (.seq (.cond (T 7)
 (.skip)
 (.exit 0))
 (.block 1 (.seq (.region [I 8 (.entry) [T 5], Xt 9 0 8, Mv 3 9])
 (.seq (.region [Mv 10 0, Mv 11 3, Kc 12 [T 10, T 11], I 13 (.un .not) [T 12]])
 (.cond (T 13)
 (.ret)
 (.skip))))))
def c_maps_Keys_map_int_object_one_int_object_one_1 : AFn := ⟨14, [], .seq (.region [Ld 4 1, I 5 (.range) [T 4]])
 (.block 0 (.loop c_maps_Keys_map_int_object_one_int_object_one_1_L0))⟩
abbrev n_slices_IndexFunc_api_Entry_api_Entry : Nat := 325
def c_slices_IndexFunc_api_Entry_api_Entry_L0 : ACode :=
 .seq (.region [Bi 9 .lss (T 8) (T 7)])
 (.seq (.cond (T 9)
 (.skip)
 (.exit 0))
 (.seq (.block 1 (.seq (.region [Mv 10 8, Mv 5 10])
 (.seq (.region [Mv 11 1, Mv 12 0, Mv 13 5, I 14 (.indexs 10) [T 12, T 13], I 15 (.loadn 10) [T 14], Kc 16 [T 11, T 15]])
 (.cond (T 16)
 (.seq (.region [Mv 17 5, Mv 4 17])
 (.ret))
 (.skip)))))
 (.region [Bi 18 .add (T 8) (N 1), Mv 8 18])))
def c_slices_IndexFunc_api_Entry_api_Entry : AFn := ⟨19, [.tmp 4], .seq (.region [Mn 4 0])
 (.seq (.seq (.region [Mv 6 0, I 7 .lens [T 6], Mn 8 0])
 (.block 0 (.loop c_slices_IndexFunc_api_Entry_api_Entry_L0)))
 (.seq (.region [Mn 4 (-1)])
 (.ret)))⟩
abbrev n_pte_Canonical : Nat := 328
def c_pte_Canonical : AFn := ⟨12, [.tmp 2], .seq (.region [I 2 .mv [Tf]])
 (.seq (.region [Mv 4 0, I 5 (.bin .shr) [T 4, .lit (.int .u64 38)], Mv 3 5])
 (.seq (.region [Mv 6 3, Bi 7 .eql (T 6) (N 0), Mv 8 7, Mw 9 3 8 false, IG 10 (.bin .eql) [T 9, N (-1)] 8 false, I 11 .pick [T 8, Tt, T 10], Mv 2 11])
 (.ret)))⟩
abbrev n_pte_Split : Nat := 329
def c_pte_Split : AFn := ⟨14, [.tmp 2, .tmp 3], .seq (.region [Mn 2 0, Mn 3 0])
 (.seq (.region [Mv 5 0, I 6 (.conv .u64) [T 5], Mv 4 6])
 (.seq (.region [Mv 7 4, I 8 (.bin .shr) [T 7, .lit (.int .u64 12)], Kc 9 [F 341, T 8, N 27], I 10 (.conv .i64) [T 9], Mv 11 4, Kc 12 [F 341, T 11, N 12], I 13 (.conv .i64) [T 12], Mv 2 10, Mv 3 13])
 (.ret)))⟩
abbrev n_tlb_Table_Put_1 : Nat := 330
def c_tlb_Table_Put_1 : AFn := ⟨12, [.tmp 3], .seq (.region [I 2 (.box 207 2) [T 0], I 3 .mv [Tf]])
 (.seq (.draw [[⟨0, I 4 (.loadn 2) [T 2], [], false⟩, ⟨1, Ld 5 1, [], false⟩, ⟨2, Nc 6 5, [], false⟩, ⟨3, Fa 7 1 6, [], false⟩, ⟨4, Ld 8 7, [], false⟩, ⟨5, I 9 (.indexs 2) [T 8, N 0], [], false⟩, ⟨6, I 10 (.loadn 2) [T 9], [], false⟩, ⟨7, I 11 (.eqv false (.flat [.int, .int])) [T 4, T 10], [], false⟩, ⟨8, Mv 3 11, [], false⟩]])
 (.ret))⟩
abbrev n_kern_Kernel_stored : Nat := 331
def c_kern_Kernel_stored : AFn := ⟨101, [.tmp 6, .tmp 7], .seq (.region [Mn 6 0, Mn 7 0])
 (.seq (.seq (.region [Mv 20 0, Mv 21 1, Mv 22 2, Kc 23 [F 174, T 20, T 21, T 22], Mv 19 23, Xt 24 0 19, Xt 25 1 19, Mv 8 24, Mv 9 25])
 (.seq (.region [Mv 26 9, Bi 27 .neq (T 26) (N 0)])
 (.cond (T 27)
 (.seq (.region [Mv 28 9, Mn 6 (-1), Mv 7 28])
 (.ret))
 (.skip))))
 (.seq (.region [Mv 29 0, Mv 30 1, Mv 31 2, Kc 32 [F 57, T 29, T 30, T 31], Mv 10 32])
 (.seq (.region [Mv 34 0, Mv 35 10, Kc 36 [F 332, T 34, T 35], Mv 33 36, Xt 37 0 33, Xt 38 1 33, Mv 11 37, Mv 12 38])
 (.seq (.seq (.region [Mv 39 12, Bi 40 .neq (T 39) (N 0)])
 (.cond (T 40)
 (.seq (.region [Mv 41 12, Mn 6 (-1), Mv 7 41])
 (.ret))
 (.skip)))
 (.seq (.region [Mv 43 0, Nc 44 43, Fa 45 5 44, Ld 46 45, Mv 47 10, Kc 48 [F 56, T 46, T 47], Mv 42 48, Xt 49 0 42, Xt 50 1 42, I 13 (.alloc 103 3 (.vals [Zi, Zi, Zi])) [], J (.store 3) [T 13, T 49], Mv 14 50])
 (.seq (.seq (.region [Fa 51 0 13, Ld 52 51, Bi 53 .gtr (T 52) (N 1)])
 (.cond (T 53)
 (.seq (.region [Mv 54 0, Mv 55 1, Mv 56 2, Mv 57 11, Kc 58 [F 333, T 54, T 55, T 56, T 57], Xt 59 0 58, Xt 60 1 58, Mv 6 59, Mv 7 60])
 (.ret))
 (.skip)))
 (.seq (.seq (.region [Mv 62 0, Nc 63 62, Fa 64 1 63, Ld 65 64, Mv 66 11, Kc 67 [F 45, T 65, T 66], Mv 61 67, Xt 68 0 61, Xt 69 1 61, I 15 (.alloc 80 5 (.vals [Zi, Zi, Zi, Zi, Zi])) [], J (.store 5) [T 15, T 68], Mv 16 69])
 (.seq (.region [Fa 70 4 15, Ld 71 70, Bi 72 .gtr (T 71) (N 0)])
 (.cond (T 72)
 (.seq (.region [Mv 74 0, Mv 75 10, Kc 76 [F 156, T 74, N 2, T 75, N 0], Mv 73 76, Xt 77 0 73, Xt 78 1 73, Mv 17 77, Mv 18 78])
 (.seq (.seq (.region [Mv 79 18, Bi 80 .neq (T 79) (N 0)])
 (.cond (T 80)
 (.seq (.region [Mv 81 18, Mn 6 (-1), Mv 7 81])
 (.ret))
 (.skip)))
 (.seq (.region [Mv 82 0, Nc 83 82, Fa 84 0 83, Ld 85 84, Mv 86 17, Mv 87 11, Kc 88 [F 160, T 85, T 86, T 87]])
 (.seq (.region [Mv 89 0, Mv 90 11, Kc 91 [F 109, T 89, T 90]])
 (.seq (.region [Mv 92 0, Nc 93 92, Fa 94 5 93, Ld 95 94, Mv 96 10, Mv 97 17, Kc 98 [F 113, T 95, T 96, T 97, N (-1)]])
 (.region [Mv 99 17, Mv 11 99]))))))
 (.skip))))
 (.seq (.region [Mv 100 11, Mv 6 100, Mn 7 0])
 (.ret)))))))))⟩
abbrev n_kern_Kernel_back : Nat := 332
def c_kern_Kernel_back : AFn := ⟨43, [.tmp 4, .tmp 5], .seq (.region [Mn 4 0, Mn 5 0])
 (.seq (.region [Mv 11 0, Nc 12 11, Fa 13 5 12, Ld 14 13, Mv 15 1, Kc 16 [F 56, T 14, T 15], Mv 10 16, Xt 17 0 10, Xt 18 1 10, I 6 (.alloc 103 3 (.vals [Zi, Zi, Zi])) [], J (.store 3) [T 6, T 17], Mv 7 18])
 (.seq (.seq (.region [Fa 19 1 6, Ld 20 19, Bi 21 .geq (T 20) (N 0)])
 (.cond (T 21)
 (.seq (.region [Fa 22 1 6, Ld 23 22, Mv 4 23, Mn 5 0])
 (.ret))
 (.skip)))
 (.seq (.region [Mv 25 0, Mv 26 1, Fa 27 2 6, Ld 28 27, Kc 29 [F 155, T 25, N 2, T 26, N 0, T 28], Mv 24 29, Xt 30 0 24, Xt 31 1 24, Mv 8 30, Mv 9 31])
 (.seq (.seq (.region [Mv 32 9, Bi 33 .eql (T 32) (N 0)])
 (.cond (T 33)
 (.region [Mv 34 0, Nc 35 34, Fa 36 5 35, Ld 37 36, Mv 38 1, Mv 39 8, Kc 40 [F 113, T 37, T 38, T 39, N (-1)]])
 (.skip)))
 (.seq (.region [Mv 41 8, Mv 42 9, Mv 4 41, Mv 5 42])
 (.ret))))))⟩
abbrev n_kern_Kernel_fresh : Nat := 333
def c_kern_Kernel_fresh : AFn := ⟨78, [.tmp 8, .tmp 9], .seq (.region [Mn 8 0, Mn 9 0])
 (.seq (.region [Mv 15 0, Mv 16 1, Mv 17 2, Kc 18 [F 174, T 15, T 16, T 17], Mv 14 18, Xt 19 0 14, Xt 20 1 14, Mv 10 19, Mv 11 20])
 (.seq (.seq (.region [Mv 21 11, Bi 22 .neq (T 21) (N 0)])
 (.cond (T 22)
 (.seq (.region [Mv 23 11, Mn 8 (-1), Mv 9 23])
 (.ret))
 (.skip)))
 (.seq (.region [Mv 25 0, Kc 26 [F 156, T 25, N 2, N 0, N 0], Mv 24 26, Xt 27 0 24, Xt 28 1 24, Mv 12 27, Mv 11 28])
 (.seq (.seq (.region [Mv 29 11, Bi 30 .neq (T 29) (N 0)])
 (.cond (T 30)
 (.seq (.region [Mv 31 11, Mn 8 (-1), Mv 9 31])
 (.ret))
 (.skip)))
 (.seq (.region [Mv 33 0, Nc 34 33, Fa 35 5 34, Ld 36 35, Mv 37 12, Kc 38 [F 190, T 36, T 37], Mv 32 38, Xt 39 0 32, Xt 40 1 32, Mv 13 39, Mv 11 40])
 (.seq (.seq (.region [Mv 41 11, Bi 42 .neq (T 41) (N 0)])
 (.cond (T 42)
 (.seq (.region [Mv 43 0, Nc 44 43, Fa 45 1 44, Ld 46 45, Mv 47 12, Kc 48 [F 117, T 46, T 47]])
 (.seq (.region [Mv 49 11, Mn 8 (-1), Mv 9 49])
 (.ret)))
 (.skip)))
 (.seq (.region [Mv 50 0, Nc 51 50, Fa 52 1 51, Ld 53 52, Mv 54 12, Mv 55 13, Kc 56 [F 191, T 53, T 54, N 2, T 55, N 0]])
 (.seq (.seq (.region [Mv 57 3, Bi 58 .geq (T 57) (N 0)])
 (.cond (T 58)
 (.region [Mv 59 0, Nc 60 59, Fa 61 0 60, Ld 62 61, Mv 63 12, Mv 64 3, Kc 65 [F 160, T 62, T 63, T 64]])
 (.region [Mv 66 0, Nc 67 66, Fa 68 0 67, Ld 69 68, Mv 70 12, Kc 71 [F 146, T 69, T 70]])))
 (.seq (.region [Mv 72 0, Mv 73 10, Mv 74 2, Mv 75 13, Kc 76 [F 205, T 72, T 73, T 74, T 75]])
 (.seq (.region [Mv 77 12, Mv 8 77, Mn 9 0])
 (.ret)))))))))))⟩
abbrev n_pte_Index : Nat := 334
def c_pte_Index : AFn := ⟨18, [.tmp 4], .seq (.region [Mn 4 0])
 (.seq (.seq (.region [Mv 5 1, Bi 6 .lss (T 5) (N 0), Mv 7 6, Mw 8 1 7 false, IG 9 (.bin .geq) [T 8, N 3] 7 false, I 10 .pick [T 7, Tt, T 9]])
 (.cond (T 10)
 (.seq (.region [Mn 4 0])
 (.ret))
 (.skip)))
 (.seq (.region [Mv 11 0, I 12 (.conv .u64) [T 11], Mv 13 1, Bi 14 .mul (N 9) (T 13), Bi 15 .shr (T 12) (T 14), Kc 16 [F 341, T 15, N 9], I 17 (.conv .i64) [T 16], Mv 4 17])
 (.ret)))⟩
abbrev n_pte_Flags : Nat := 336
def c_pte_Flags : AFn := ⟨25, [.tmp 4], .seq (.region [Mn 4 0])
 (.seq (.seq (.region [Mv 5 0, Bi 6 .and (T 5) (N 7), Bi 7 .eql (T 6) (N 0)])
 (.cond (T 7)
 (.seq (.region [Mn 4 0])
 (.ret))
 (.skip)))
 (.seq (.region [I 8 (.build (.agg [(.bool false), Zi]) [(0, 1), (1, 1)]) [Tt, N 1], Mv 9 0, Bi 10 .and (T 9) (N 3), Bi 11 .gtr (T 10) (N 0), I 12 (.build (.agg [(.bool false), Zi]) [(0, 1), (1, 1)]) [T 11, N 2], Mv 13 0, Bi 14 .and (T 13) (N 2), Bi 15 .gtr (T 14) (N 0), I 16 (.build (.agg [(.bool false), Zi]) [(0, 1), (1, 1)]) [T 15, N 4], Mv 17 0, Bi 18 .and (T 17) (N 4), Bi 19 .gtr (T 18) (N 0), I 20 (.build (.agg [(.bool false), Zi]) [(0, 1), (1, 1)]) [T 19, N 8], Mv 21 1, I 22 (.build (.agg [(.bool false), Zi]) [(0, 1), (1, 1)]) [T 21, N 16], I 23 (.bslice 383 2 5 (.vals [(.bool false), Zi]) [0, 1, 2, 3, 4]) [T 8, T 12, T 16, T 20, T 22], Kc 24 [F 357, T 23], Mv 4 24])
 (.ret)))⟩
abbrev n_spread_Counts_At : Nat := 337
def c_spread_Counts_At_A0 : ACode :=
 .region [I 5 (.alloc 323 3 (.vals [Zi, Zi, Zi])) [], J (.store 3) [T 5, T 19]]
def c_spread_Counts_At_B0 : ACode :=
 .block 1 (.seq (.region [Fa 20 2 5, Ld 21 20, J (.store 1) [T 4, T 21]])
 (.ret))
def c_spread_Counts_At : AFn := ⟨22, [.cell 4 .load1], .seq (.region [I 4 (.alloc 3 1 (.vals [Zi])) []])
 (.seq (.seq (.region [Mv 6 1, Bi 7 .lss (T 6) (N 0), Mv 8 7, Mw 9 1 8 false, Mw 10 0 8 false, IG 11 .callv [F 346, T 10] 8 false, IG 12 (.bin .geq) [T 9, T 11] 8 false, I 13 .pick [T 8, Tt, T 12]])
 (.cond (T 13)
 (.seq (.region [J (.store 1) [T 4, N (-1)]])
 (.ret))
 (.skip)))
 (.seq (.seq (.region [Mv 14 0, Mv 15 1, Mv 16 1, Bi 17 .add (T 16) (N 1), Kc 18 [F 279, T 14, T 15, T 17]])
 (.block 0 (.rfun (T 18) [19] c_spread_Counts_At_A0 c_spread_Counts_At_B0)))
 (.seq (.region [J (.store 1) [T 4, N (-1)]])
 (.ret))))⟩
abbrev n_phys_Memory_cell : Nat := 340
def c_phys_Memory_cell : AFn := ⟨29, [.tmp 6], .seq (.region [I 6 .mv [.lit .nilsl]])
 (.seq (.region [Mv 8 0, Mv 9 1, Kc 10 [F 159, T 8, T 9], Mv 7 10])
 (.seq (.seq (.region [Mv 11 7, I 12 (.eqv false .ptr) [T 11, .lit .nilptr], Mv 13 12, Mw 14 2 13 false, IG 15 (.bin .lss) [T 14, N 0] 13 false, I 16 .pick [T 13, Tt, T 15], Mv 17 16, Mw 18 2 17 false, IG 19 (.bin .geq) [T 18, N 512] 17 false, I 20 .pick [T 17, Tt, T 19]])
 (.cond (T 20)
 (.seq (.region [I 6 .mv [.lit .nilsl]])
 (.ret))
 (.skip)))
 (.seq (.region [Mv 21 7, Nc 22 21, Mv 23 2, Bi 24 .mul (N 8) (T 23), Mv 25 2, Bi 26 .mul (N 8) (T 25), Bi 27 .add (T 26) (N 8), I 28 (.slicea 4096 1 true true false) [T 22, T 24, T 27], Mv 6 28])
 (.ret))))⟩
abbrev n_pte_low : Nat := 341
def c_pte_low : AFn := ⟨10, [.tmp 4], .seq (.region [I 4 .mv [.lit (.int .u64 0)]])
 (.seq (.region [Mv 5 0, Mv 6 1, I 7 (.bin .shl) [.lit (.int .u64 1), T 6], I 8 (.bin .sub) [T 7, .lit (.int .u64 1)], Bi 9 .and (T 5) (T 8), Mv 4 9])
 (.ret))⟩
abbrev n_spread_Counts_parts_1 : Nat := 342
def c_spread_Counts_parts_1_L0 : ACode :=
 .seq (.region [Bi 16 .lss (T 15) (T 14)])
 (.seq (.cond (T 16)
 (.skip)
 (.exit 0))
 (.seq (.block 1 (.seq (.region [I 17 (.indexs 3) [T 13, T 15], I 18 (.loadn 3) [T 17], I 6 (.alloc 323 3 (.vals [Zi, Zi, Zi])) [], J (.store 3) [T 6, T 18]])
 (.seq (.draw [[⟨0, Fa 19 0 6, [], false⟩, ⟨1, Ld 20 19, [], false⟩, ⟨2, Ld 21 2, [], false⟩, ⟨3, I 22 (.max) [T 20, T 21], [], false⟩, ⟨4, Fa 23 1 6, [], false⟩, ⟨5, Ld 24 23, [], false⟩, ⟨6, Ld 25 3, [], false⟩, ⟨7, I 26 (.min) [T 24, T 25], [], false⟩, ⟨8, Fa 27 0 6, [], false⟩, ⟨9, J (.store 1) [T 27, T 22], [(6, Ld 25 3)], false⟩, ⟨10, Fa 28 1 6, [], false⟩, ⟨11, J (.store 1) [T 28, T 26], [], false⟩]])
 (.seq (.region [Fa 29 0 6, Ld 30 29, Fa 31 1 6, Ld 32 31, Bi 33 .lss (T 30) (T 32), Mv 34 33, Mw 35 0 34 true, IG 36 (.loadn 3) [T 6] 34 true, IG 37 .callv [T 35, T 36] 34 true, IG 38 (.un .not) [T 37] 34 true, I 39 .pick [T 34, T 38, Tf]])
 (.cond (T 39)
 (.ret)
 (.skip))))))
 (.region [Bi 40 .add (T 15) (N 1), Mv 15 40])))
def c_spread_Counts_parts_1 : AFn := ⟨41, [], .seq (.seq (.region [Ld 7 1, Kc 8 [F 278, T 7], I 9 (.un .not) [T 8]])
 (.cond (T 9)
 (.ret)
 (.skip)))
 (.seq (.region [Ld 10 1, Nc 11 10, Fa 12 0 11, Ld 13 12, I 14 .lens [T 13], Mn 15 0])
 (.block 0 (.loop c_spread_Counts_parts_1_L0)))⟩
abbrev n_slices_IndexFunc_api_Run_api_Run : Nat := 343
def c_slices_IndexFunc_api_Run_api_Run_L0 : ACode :=
 .seq (.region [Bi 9 .lss (T 8) (T 7)])
 (.seq (.cond (T 9)
 (.skip)
 (.exit 0))
 (.seq (.block 1 (.seq (.region [Mv 10 8, Mv 5 10])
 (.seq (.region [Mv 11 1, Mv 12 0, Mv 13 5, I 14 (.indexs 3) [T 12, T 13], I 15 (.loadn 3) [T 14], Kc 16 [T 11, T 15]])
 (.cond (T 16)
 (.seq (.region [Mv 17 5, Mv 4 17])
 (.ret))
 (.skip)))))
 (.region [Bi 18 .add (T 8) (N 1), Mv 8 18])))
def c_slices_IndexFunc_api_Run_api_Run : AFn := ⟨19, [.tmp 4], .seq (.region [Mn 4 0])
 (.seq (.seq (.region [Mv 6 0, I 7 .lens [T 6], Mn 8 0])
 (.block 0 (.loop c_slices_IndexFunc_api_Run_api_Run_L0)))
 (.seq (.region [Mn 4 (-1)])
 (.ret)))⟩
abbrev n_spread_split_1 : Nat := 344
def c_spread_split_1 : AFn := ⟨14, [.tmp 3], .seq (.region [I 2 (.box 323 3) [T 0], I 3 .mv [Tf]])
 (.seq (.region [Fa 4 0 2, Ld 5 4, Ld 6 1, Bi 7 .lss (T 5) (T 6), Mv 8 7, IG 9 .load1 [T 1] 8 true, IG 10 (.fieldAddr 1) [T 2] 8 true, IG 11 .load1 [T 10] 8 true, IG 12 (.bin .lss) [T 9, T 11] 8 true, I 13 .pick [T 8, T 12, Tf], Mv 3 13])
 (.ret))⟩
abbrev n_spread_Counts_Len : Nat := 346
def c_spread_Counts_Len : AFn := ⟨10, [.tmp 2], .seq (.region [Mn 2 0])
 (.seq (.seq (.region [Mv 3 0, Kc 4 [F 278, T 3], I 5 (.un .not) [T 4]])
 (.cond (T 5)
 (.seq (.region [Mn 2 0])
 (.ret))
 (.skip)))
 (.seq (.region [Mv 6 0, Nc 7 6, Fa 8 1 7, Ld 9 8, Mv 2 9])
 (.ret)))⟩
abbrev n_pmap_Map_Remove_1 : Nat := 348
def c_pmap_Map_Remove_1 : AFn := ⟨4, [.cell 2 (.loadn 2)], .seq (.region [I 1 (.box 204 2) [T 0], I 2 (.alloc 204 2 (.vals [Zi, Zi])) []])
 (.seq (.region [I 3 (.build (.agg [Zi, Zi]) []) [], J (.store 2) [T 2, T 3]])
 (.ret))⟩
abbrev n_pmap_Map_bare : Nat := 355
def c_pmap_Map_bare_L0 : ACode :=
 .seq (.region [Bi 9 .lss (T 8) (N 512)])
 (.seq (.cond (T 9)
 (.skip)
 (.exit 0))
 (.seq (.block 1 (.seq (.region [Mv 10 8, Mv 5 10])
 (.seq (.region [Mv 12 0, Nc 13 12, Fa 14 0 13, Ld 15 14, Mv 16 1, Mv 17 5, Kc 18 [F 273, T 15, T 16, T 17], Mv 11 18, Xt 19 0 11, Xt 20 1 11, Mv 6 19, Mv 7 20])
 (.seq (.region [Mv 21 6, I 22 (.bin .neq) [T 21, .lit (.int .u64 0)]])
 (.cond (T 22)
 (.seq (.region [I 4 .mv [Tf]])
 (.ret))
 (.skip))))))
 (.region [Bi 23 .add (T 8) (N 1), Mv 8 23])))
def c_pmap_Map_bare : AFn := ⟨24, [.tmp 4], .seq (.region [I 4 .mv [Tf]])
 (.seq (.seq (.region [Mn 8 0])
 (.block 0 (.loop c_pmap_Map_bare_L0)))
 (.seq (.region [I 4 .mv [Tt]])
 (.ret)))⟩
abbrev n_pte_gather : Nat := 357
def c_pte_gather_L0 : ACode :=
 .seq (.region [Bi 9 .lss (T 8) (T 7)])
 (.seq (.cond (T 9)
 (.skip)
 (.exit 0))
 (.seq (.block 1 (.seq (.region [I 10 (.indexs 2) [T 6, T 8], I 11 (.loadn 2) [T 10], I 5 (.alloc 383 2 (.vals [(.bool false), Zi])) [], J (.store 2) [T 5, T 11]])
 (.seq (.region [Fa 12 0 5, Ld 13 12])
 (.cond (T 13)
 (.region [Mv 14 3, Fa 15 1 5, Ld 16 15, Bi 17 .or (T 14) (T 16), Mv 3 17])
 (.skip)))))
 (.region [Bi 18 .add (T 8) (N 1), Mv 8 18])))
def c_pte_gather : AFn := ⟨20, [.tmp 2], .seq (.region [Mn 2 0])
 (.seq (.region [Mn 3 0])
 (.seq (.seq (.region [Mv 6 0, I 7 .lens [T 6], Mn 8 0])
 (.block 0 (.loop c_pte_gather_L0)))
 (.seq (.region [Mv 19 3, Mv 2 19])
 (.ret))))⟩
def tab : BT := (.node (.node (.node (.node (.node (.node (.node (.node .leaf 2 c_gosem_cut_init .leaf) 5 c_law19_LoanShares (.node .leaf 7 c_kern_New .leaf)) 8 c_kern_Kernel_Do (.node (.node .leaf 9 c_kern_Kernel_Resident .leaf) 10 c_law18_lives .leaf)) 11 c_loan_New (.node (.node (.node .leaf 12 c_loan_Desk_Loan .leaf) 13 c_loan_Desk_Return .leaf) 14 c_loan_Desk_Handles (.node (.node .leaf 15 c_law19_lives .leaf) 16 c_kern_Kernel_Free .leaf))) 17 c_loan_Desk_Frame (.node (.node (.node (.node .leaf 18 c_loan_Desk_Peek .leaf) 19 c_kern_Kernel_Byte .leaf) 22 c_law20_lives (.node (.node .leaf 23 c_kern_may .leaf) 24 c_phys_New .leaf)) 25 c_frames_New (.node (.node (.node .leaf 26 c_swap_New .leaf) 27 c_slots_New .leaf) 28 c_file_New (.node (.node .leaf 29 c_anon_New .leaf) 30 c_amap_New .leaf)))) 31 c_object_New (.node (.node (.node (.node (.node .leaf 32 c_tlb_New .leaf) 34 c_kern_Kernel_birth .leaf) 35 c_kern_Kernel_made (.node (.node .leaf 38 c_kern_Kernel_enter .leaf) 39 c_kern_Kernel_access .leaf)) 44 c_phys_Memory_Frames (.node (.node (.node .leaf 45 c_frames_Pool_Get .leaf) 47 c_loan_Desk_made .leaf) 49 c_kern_Kernel_Lend (.node (.node .leaf 50 c_kern_Kernel_Back .leaf) 51 c_slices_Sorted_int .leaf))) 52 c_maps_Keys_map_int_int_int_int (.node (.node (.node (.node .leaf 53 c_frames_Pool_Free .leaf) 54 c_kern_Kernel_FrameByte .leaf) 55 c_vmap_Map_At (.node (.node .leaf 56 c_anon_Pool_Get .leaf) 57 c_kern_Kernel_anonAt .leaf)) 58 c_kern_Kernel_held (.node (.node (.node .leaf 59 c_kern_Kernel_gone .leaf) 62 c_daemon_Daemon_made .leaf) 64 c_daemon_Daemon_look (.node (.node .leaf 67 c_slices_ContainsFunc_int_int .leaf) 68 c_file_Store_made .leaf))))) 69 c_pmap_New (.node (.node (.node (.node (.node (.node .leaf 70 c_vmap_New .leaf) 77 c_phys_Memory_Byte (.node .leaf 79 c_phys_Memory_SetByte .leaf)) 80 c_vmap_Map_Map (.node (.node .leaf 82 c_kern_Kernel_reap .leaf) 83 c_kern_Kernel_allowed .leaf)) 84 c_kern_Kernel_find (.node (.node (.node .leaf 86 c_vmap_Map_Entries .leaf) 93 c_amap_Pool_Make .leaf) 96 c_kern_proc_insert (.node (.node .leaf 103 c_frames_Pool_made .leaf) 108 c_phys_Memory_Page .leaf))) 109 c_kern_Kernel_leave (.node (.node (.node (.node .leaf 113 c_anon_Pool_Put .leaf) 115 c_frames_Pool_Loan .leaf) 116 c_kern_Kernel_alone (.node (.node .leaf 117 c_frames_Pool_Give .leaf) 118 c_slices_Collect_int .leaf)) 119 c_slices_Sort_int_int (.node (.node (.node .leaf 120 c_maps_Keys_map_int_int_int_int_1 .leaf) 121 c_frames_Pool_Count .leaf) 122 c_vmap_Map_made (.node (.node .leaf 123 c_entry_Find .leaf) 124 c_anon_Pool_made .leaf)))) 125 c_kern_proc_at (.node (.node (.node (.node (.node .leaf 126 c_amap_Pool_Get .leaf) 128 c_file_Store_Size .leaf) 140 c_kern_Kernel_Procs (.node (.node .leaf 141 c_pmap_Map_All .leaf) 143 c_tlb_Table_Flush .leaf)) 144 c_slices_IndexFunc_int_int (.node (.node (.node .leaf 145 c_frames_Pool_Take .leaf) 146 c_phys_Memory_Zero .leaf) 151 c_object_Pool_Ids (.node (.node .leaf 156 c_kern_Kernel_take .leaf) 158 c_phys_Memory_Fill .leaf))) 159 c_phys_Memory_at (.node (.node (.node (.node .leaf 160 c_phys_Memory_Copy .leaf) 161 c_entry_Good .leaf) 162 c_vmap_within (.node (.node .leaf 163 c_entry_Cut .leaf) 164 c_entry_Space .leaf)) 165 c_entry_Insert (.node (.node (.node .leaf 166 c_entry_Merge .leaf) 170 c_kern_Kernel_reach .leaf) 171 c_kern_Kernel_fault (.node (.node .leaf 172 c_slices_Clone_api_Entry_api_Entry .leaf) 174 c_kern_Kernel_own .leaf)))))) 178 c_pmap_Map_made (.node (.node (.node (.node (.node (.node (.node .leaf 179 c_pmap_Map_below .leaf) 180 c_pmap_Map_give (.node .leaf 181 c_tlb_Table_drop .leaf)) 184 c_amap_Pool_made (.node (.node .leaf 185 c_spread_New .leaf) 186 c_spread_Counts_Add .leaf)) 187 c_slices_Index_amap_one_amap_one (.node (.node (.node .leaf 189 c_amap_Pool_Set .leaf) 190 c_anon_Pool_Make .leaf) 191 c_frames_Pool_Own (.node (.node .leaf 194 c_slices_IndexFunc_kern_area_kern_area .leaf) 196 c_slices_Insert_kern_area_kern_area .leaf))) 200 c_kern_Kernel_out (.node (.node (.node (.node .leaf 205 c_kern_Kernel_put .leaf) 214 c_object_Pool_made .leaf) 215 c_anon_Pool_change (.node (.node .leaf 216 c_anon_Pool_Put_1 .leaf) 217 c_frames_Pool_with .leaf)) 218 c_frames_Pool_Loan_1 (.node (.node (.node .leaf 219 c_frames_count .leaf) 220 c_frames_Pool_Give_1 .leaf) 221 c_slices_AppendSeq_int_int (.node (.node .leaf 222 c_slices_pdqsortOrdered_int .leaf) 223 c_math_bits_Len .leaf)))) 224 c_slices_BinarySearchFunc_api_Entry_api_Entry_int (.node (.node (.node (.node (.node .leaf 225 c_entry_Find_1 .leaf) 226 c_kern_proc_at_1 .leaf) 227 c_amap_Pool_Slots (.node (.node .leaf 228 c_amap_Pool_of .leaf) 232 c_slices_Index_int_int .leaf)) 235 c_ring_Rows_int_Rows (.node (.node (.node .leaf 238 c_maps_Keys_map_int_kern_proc_int_kern_proc .leaf) 239 c_pmap_Map_All_1 .leaf) 240 c_walk_Leaves (.node (.node .leaf 241 c_pmap_Map_change .leaf) 244 c_slices_IndexFunc_frames_Frame_frames_Frame .leaf))) 245 c_frames_Pool_Take_1 (.node (.node (.node (.node .leaf 248 c_maps_Keys_map_int_object_one_int_object_one .leaf) 251 c_entry_Clip .leaf) 252 c_slices_DeleteFunc_api_Entry_api_Entry (.node (.node .leaf 254 c_entry_room .leaf) 255 c_slices_Insert_api_Entry_api_Entry .leaf)) 257 c_tlb_Table_Find (.node (.node (.node .leaf 258 c_pte_May .leaf) 259 c_walk_Walk .leaf) 260 c_pmap_Map_Root (.node (.node .leaf 261 c_walk_Look .leaf) 262 c_tlb_Table_Put .leaf))))) 263 c_kern_Kernel_private (.node (.node (.node (.node (.node (.node .leaf 264 c_pmap_Map_Enter .leaf) 266 c_kern_Kernel_begin .leaf) 267 c_amap_Pool_Cover (.node (.node .leaf 270 c_amap_Pool_known .leaf) 273 c_phys_Memory_Word .leaf)) 274 c_pte_Decode (.node (.node (.node .leaf 275 c_pte_Kind .leaf) 276 c_phys_Memory_SetWord .leaf) 277 c_spread_Counts_Grow (.node (.node .leaf 278 c_spread_Counts_made .leaf) 279 c_spread_Counts_parts .leaf))) 280 c_spread_split (.node (.node (.node (.node .leaf 281 c_slices_Clone_api_Run_api_Run .leaf) 282 c_spread_join .leaf) 284 c_frames_Pool_Own_1 (.node (.node .leaf 290 c_pmap_Map_Remove .leaf) 297 c_slices_insertionSortOrdered_int .leaf)) 307 c_math_bits_Len64 (.node (.node (.node .leaf 312 c_maps_Keys_map_int_kern_proc_int_kern_proc_1 .leaf) 313 c_walk_Leaves_1 .leaf) 314 c_walk_Leaves_1_1 (.node (.node .leaf 315 c_walk_read .leaf) 316 c_walk_below .leaf)))) 317 c_pmap_Map_Find (.node (.node (.node (.node (.node .leaf 318 c_walk_Place .leaf) 319 c_pte_Encode .leaf) 320 c_pmap_Map_tidy (.node (.node .leaf 322 c_maps_Keys_map_int_object_one_int_object_one_1 .leaf) 325 c_slices_IndexFunc_api_Entry_api_Entry .leaf)) 328 c_pte_Canonical (.node (.node (.node .leaf 329 c_pte_Split .leaf) 330 c_tlb_Table_Put_1 .leaf) 331 c_kern_Kernel_stored (.node (.node .leaf 332 c_kern_Kernel_back .leaf) 333 c_kern_Kernel_fresh .leaf))) 334 c_pte_Index (.node (.node (.node (.node .leaf 336 c_pte_Flags .leaf) 337 c_spread_Counts_At .leaf) 340 c_phys_Memory_cell (.node (.node .leaf 341 c_pte_low .leaf) 342 c_spread_Counts_parts_1 .leaf)) 343 c_slices_IndexFunc_api_Run_api_Run (.node (.node (.node .leaf 344 c_spread_split_1 .leaf) 346 c_spread_Counts_Len .leaf) 348 c_pmap_Map_Remove_1 (.node (.node .leaf 355 c_pmap_Map_bare .leaf) 357 c_pte_gather .leaf)))))))
theorem i2 : Is Tryz.prog 2 c_gosem_cut_init := ⟨_, Tryz.func2, by kernel_rfl, Tryz.call2⟩
theorem i5 : Is Tryz.prog 5 c_law19_LoanShares := ⟨_, Tryz.func5, by kernel_rfl, Tryz.call5⟩
theorem i7 : Is Tryz.prog 7 c_kern_New := ⟨_, Tryz.func7, by kernel_rfl, Tryz.call7⟩
theorem i8 : Is Tryz.prog 8 c_kern_Kernel_Do := ⟨_, Tryz.func8, by kernel_rfl, Tryz.call8⟩
theorem i9 : Is Tryz.prog 9 c_kern_Kernel_Resident := ⟨_, Tryz.func9, by kernel_rfl, Tryz.call9⟩
theorem i10 : Is Tryz.prog 10 c_law18_lives := ⟨_, Tryz.func10, by kernel_rfl, Tryz.call10⟩
theorem i11 : Is Tryz.prog 11 c_loan_New := ⟨_, Tryz.func11, by kernel_rfl, Tryz.call11⟩
theorem i12 : Is Tryz.prog 12 c_loan_Desk_Loan := ⟨_, Tryz.func12, by kernel_rfl, Tryz.call12⟩
theorem i13 : Is Tryz.prog 13 c_loan_Desk_Return := ⟨_, Tryz.func13, by kernel_rfl, Tryz.call13⟩
theorem i14 : Is Tryz.prog 14 c_loan_Desk_Handles := ⟨_, Tryz.func14, by kernel_rfl, Tryz.call14⟩
theorem i15 : Is Tryz.prog 15 c_law19_lives := ⟨_, Tryz.func15, by kernel_rfl, Tryz.call15⟩
theorem i16 : Is Tryz.prog 16 c_kern_Kernel_Free := ⟨_, Tryz.func16, by kernel_rfl, Tryz.call16⟩
theorem i17 : Is Tryz.prog 17 c_loan_Desk_Frame := ⟨_, Tryz.func17, by kernel_rfl, Tryz.call17⟩
theorem i18 : Is Tryz.prog 18 c_loan_Desk_Peek := ⟨_, Tryz.func18, by kernel_rfl, Tryz.call18⟩
theorem i19 : Is Tryz.prog 19 c_kern_Kernel_Byte := ⟨_, Tryz.func19, by kernel_rfl, Tryz.call19⟩
theorem i22 : Is Tryz.prog 22 c_law20_lives := ⟨_, Tryz.func22, by kernel_rfl, Tryz.call22⟩
theorem i23 : Is Tryz.prog 23 c_kern_may := ⟨_, Tryz.func23, by kernel_rfl, Tryz.call23⟩
theorem i24 : Is Tryz.prog 24 c_phys_New := ⟨_, Tryz.func24, by kernel_rfl, Tryz.call24⟩
theorem i25 : Is Tryz.prog 25 c_frames_New := ⟨_, Tryz.func25, by kernel_rfl, Tryz.call25⟩
theorem i26 : Is Tryz.prog 26 c_swap_New := ⟨_, Tryz.func26, by kernel_rfl, Tryz.call26⟩
theorem i27 : Is Tryz.prog 27 c_slots_New := ⟨_, Tryz.func27, by kernel_rfl, Tryz.call27⟩
theorem i28 : Is Tryz.prog 28 c_file_New := ⟨_, Tryz.func28, by kernel_rfl, Tryz.call28⟩
theorem i29 : Is Tryz.prog 29 c_anon_New := ⟨_, Tryz.func29, by kernel_rfl, Tryz.call29⟩
theorem i30 : Is Tryz.prog 30 c_amap_New := ⟨_, Tryz.func30, by kernel_rfl, Tryz.call30⟩
theorem i31 : Is Tryz.prog 31 c_object_New := ⟨_, Tryz.func31, by kernel_rfl, Tryz.call31⟩
theorem i32 : Is Tryz.prog 32 c_tlb_New := ⟨_, Tryz.func32, by kernel_rfl, Tryz.call32⟩
theorem i34 : Is Tryz.prog 34 c_kern_Kernel_birth := ⟨_, Tryz.func34, by kernel_rfl, Tryz.call34⟩
theorem i35 : Is Tryz.prog 35 c_kern_Kernel_made := ⟨_, Tryz.func35, by kernel_rfl, Tryz.call35⟩
theorem i38 : Is Tryz.prog 38 c_kern_Kernel_enter := ⟨_, Tryz.func38, by kernel_rfl, Tryz.call38⟩
theorem i39 : Is Tryz.prog 39 c_kern_Kernel_access := ⟨_, Tryz.func39, by kernel_rfl, Tryz.call39⟩
theorem i44 : Is Tryz.prog 44 c_phys_Memory_Frames := ⟨_, Tryz.func44, by kernel_rfl, Tryz.call44⟩
theorem i45 : Is Tryz.prog 45 c_frames_Pool_Get := ⟨_, Tryz.func45, by kernel_rfl, Tryz.call45⟩
theorem i47 : Is Tryz.prog 47 c_loan_Desk_made := ⟨_, Tryz.func47, by kernel_rfl, Tryz.call47⟩
theorem i49 : Is Tryz.prog 49 c_kern_Kernel_Lend := ⟨_, Tryz.func49, by kernel_rfl, Tryz.call49⟩
theorem i50 : Is Tryz.prog 50 c_kern_Kernel_Back := ⟨_, Tryz.func50, by kernel_rfl, Tryz.call50⟩
theorem i51 : Is Tryz.prog 51 c_slices_Sorted_int := ⟨_, Tryz.func51, by kernel_rfl, Tryz.call51⟩
theorem i52 : Is Tryz.prog 52 c_maps_Keys_map_int_int_int_int := ⟨_, Tryz.func52, by kernel_rfl, Tryz.call52⟩
theorem i53 : Is Tryz.prog 53 c_frames_Pool_Free := ⟨_, Tryz.func53, by kernel_rfl, Tryz.call53⟩
theorem i54 : Is Tryz.prog 54 c_kern_Kernel_FrameByte := ⟨_, Tryz.func54, by kernel_rfl, Tryz.call54⟩
theorem i55 : Is Tryz.prog 55 c_vmap_Map_At := ⟨_, Tryz.func55, by kernel_rfl, Tryz.call55⟩
theorem i56 : Is Tryz.prog 56 c_anon_Pool_Get := ⟨_, Tryz.func56, by kernel_rfl, Tryz.call56⟩
theorem i57 : Is Tryz.prog 57 c_kern_Kernel_anonAt := ⟨_, Tryz.func57, by kernel_rfl, Tryz.call57⟩
theorem i58 : Is Tryz.prog 58 c_kern_Kernel_held := ⟨_, Tryz.func58, by kernel_rfl, Tryz.call58⟩
theorem i59 : Is Tryz.prog 59 c_kern_Kernel_gone := ⟨_, Tryz.func59, by kernel_rfl, Tryz.call59⟩
theorem i62 : Is Tryz.prog 62 c_daemon_Daemon_made := ⟨_, Tryz.func62, by kernel_rfl, Tryz.call62⟩
theorem i64 : Is Tryz.prog 64 c_daemon_Daemon_look := ⟨_, Tryz.func64, by kernel_rfl, Tryz.call64⟩
theorem i67 : Is Tryz.prog 67 c_slices_ContainsFunc_int_int := ⟨_, Tryz.func67, by kernel_rfl, Tryz.call67⟩
theorem i68 : Is Tryz.prog 68 c_file_Store_made := ⟨_, Tryz.func68, by kernel_rfl, Tryz.call68⟩
theorem i69 : Is Tryz.prog 69 c_pmap_New := ⟨_, Tryz.func69, by kernel_rfl, Tryz.call69⟩
theorem i70 : Is Tryz.prog 70 c_vmap_New := ⟨_, Tryz.func70, by kernel_rfl, Tryz.call70⟩
theorem i77 : Is Tryz.prog 77 c_phys_Memory_Byte := ⟨_, Tryz.func77, by kernel_rfl, Tryz.call77⟩
theorem i79 : Is Tryz.prog 79 c_phys_Memory_SetByte := ⟨_, Tryz.func79, by kernel_rfl, Tryz.call79⟩
theorem i80 : Is Tryz.prog 80 c_vmap_Map_Map := ⟨_, Tryz.func80, by kernel_rfl, Tryz.call80⟩
theorem i82 : Is Tryz.prog 82 c_kern_Kernel_reap := ⟨_, Tryz.func82, by kernel_rfl, Tryz.call82⟩
theorem i83 : Is Tryz.prog 83 c_kern_Kernel_allowed := ⟨_, Tryz.func83, by kernel_rfl, Tryz.call83⟩
theorem i84 : Is Tryz.prog 84 c_kern_Kernel_find := ⟨_, Tryz.func84, by kernel_rfl, Tryz.call84⟩
theorem i86 : Is Tryz.prog 86 c_vmap_Map_Entries := ⟨_, Tryz.func86, by kernel_rfl, Tryz.call86⟩
theorem i93 : Is Tryz.prog 93 c_amap_Pool_Make := ⟨_, Tryz.func93, by kernel_rfl, Tryz.call93⟩
theorem i96 : Is Tryz.prog 96 c_kern_proc_insert := ⟨_, Tryz.func96, by kernel_rfl, Tryz.call96⟩
theorem i103 : Is Tryz.prog 103 c_frames_Pool_made := ⟨_, Tryz.func103, by kernel_rfl, Tryz.call103⟩
theorem i108 : Is Tryz.prog 108 c_phys_Memory_Page := ⟨_, Tryz.func108, by kernel_rfl, Tryz.call108⟩
theorem i109 : Is Tryz.prog 109 c_kern_Kernel_leave := ⟨_, Tryz.func109, by kernel_rfl, Tryz.call109⟩
theorem i113 : Is Tryz.prog 113 c_anon_Pool_Put := ⟨_, Tryz.func113, by kernel_rfl, Tryz.call113⟩
theorem i115 : Is Tryz.prog 115 c_frames_Pool_Loan := ⟨_, Tryz.func115, by kernel_rfl, Tryz.call115⟩
theorem i116 : Is Tryz.prog 116 c_kern_Kernel_alone := ⟨_, Tryz.func116, by kernel_rfl, Tryz.call116⟩
theorem i117 : Is Tryz.prog 117 c_frames_Pool_Give := ⟨_, Tryz.func117, by kernel_rfl, Tryz.call117⟩
theorem i118 : Is Tryz.prog 118 c_slices_Collect_int := ⟨_, Tryz.func118, by kernel_rfl, Tryz.call118⟩
theorem i119 : Is Tryz.prog 119 c_slices_Sort_int_int := ⟨_, Tryz.func119, by kernel_rfl, Tryz.call119⟩
theorem i120 : Is Tryz.prog 120 c_maps_Keys_map_int_int_int_int_1 := ⟨_, Tryz.func120, by kernel_rfl, Tryz.call120⟩
theorem i121 : Is Tryz.prog 121 c_frames_Pool_Count := ⟨_, Tryz.func121, by kernel_rfl, Tryz.call121⟩
theorem i122 : Is Tryz.prog 122 c_vmap_Map_made := ⟨_, Tryz.func122, by kernel_rfl, Tryz.call122⟩
theorem i123 : Is Tryz.prog 123 c_entry_Find := ⟨_, Tryz.func123, by kernel_rfl, Tryz.call123⟩
theorem i124 : Is Tryz.prog 124 c_anon_Pool_made := ⟨_, Tryz.func124, by kernel_rfl, Tryz.call124⟩
theorem i125 : Is Tryz.prog 125 c_kern_proc_at := ⟨_, Tryz.func125, by kernel_rfl, Tryz.call125⟩
theorem i126 : Is Tryz.prog 126 c_amap_Pool_Get := ⟨_, Tryz.func126, by kernel_rfl, Tryz.call126⟩
theorem i128 : Is Tryz.prog 128 c_file_Store_Size := ⟨_, Tryz.func128, by kernel_rfl, Tryz.call128⟩
theorem i140 : Is Tryz.prog 140 c_kern_Kernel_Procs := ⟨_, Tryz.func140, by kernel_rfl, Tryz.call140⟩
theorem i141 : Is Tryz.prog 141 c_pmap_Map_All := ⟨_, Tryz.func141, by kernel_rfl, Tryz.call141⟩
theorem i143 : Is Tryz.prog 143 c_tlb_Table_Flush := ⟨_, Tryz.func143, by kernel_rfl, Tryz.call143⟩
theorem i144 : Is Tryz.prog 144 c_slices_IndexFunc_int_int := ⟨_, Tryz.func144, by kernel_rfl, Tryz.call144⟩
theorem i145 : Is Tryz.prog 145 c_frames_Pool_Take := ⟨_, Tryz.func145, by kernel_rfl, Tryz.call145⟩
theorem i146 : Is Tryz.prog 146 c_phys_Memory_Zero := ⟨_, Tryz.func146, by kernel_rfl, Tryz.call146⟩
theorem i151 : Is Tryz.prog 151 c_object_Pool_Ids := ⟨_, Tryz.func151, by kernel_rfl, Tryz.call151⟩
theorem i156 : Is Tryz.prog 156 c_kern_Kernel_take := ⟨_, Tryz.func156, by kernel_rfl, Tryz.call156⟩
theorem i158 : Is Tryz.prog 158 c_phys_Memory_Fill := ⟨_, Tryz.func158, by kernel_rfl, Tryz.call158⟩
theorem i159 : Is Tryz.prog 159 c_phys_Memory_at := ⟨_, Tryz.func159, by kernel_rfl, Tryz.call159⟩
theorem i160 : Is Tryz.prog 160 c_phys_Memory_Copy := ⟨_, Tryz.func160, by kernel_rfl, Tryz.call160⟩
theorem i161 : Is Tryz.prog 161 c_entry_Good := ⟨_, Tryz.func161, by kernel_rfl, Tryz.call161⟩
theorem i162 : Is Tryz.prog 162 c_vmap_within := ⟨_, Tryz.func162, by kernel_rfl, Tryz.call162⟩
theorem i163 : Is Tryz.prog 163 c_entry_Cut := ⟨_, Tryz.func163, by kernel_rfl, Tryz.call163⟩
theorem i164 : Is Tryz.prog 164 c_entry_Space := ⟨_, Tryz.func164, by kernel_rfl, Tryz.call164⟩
theorem i165 : Is Tryz.prog 165 c_entry_Insert := ⟨_, Tryz.func165, by kernel_rfl, Tryz.call165⟩
theorem i166 : Is Tryz.prog 166 c_entry_Merge := ⟨_, Tryz.func166, by kernel_rfl, Tryz.call166⟩
theorem i170 : Is Tryz.prog 170 c_kern_Kernel_reach := ⟨_, Tryz.func170, by kernel_rfl, Tryz.call170⟩
theorem i171 : Is Tryz.prog 171 c_kern_Kernel_fault := ⟨_, Tryz.func171, by kernel_rfl, Tryz.call171⟩
theorem i172 : Is Tryz.prog 172 c_slices_Clone_api_Entry_api_Entry := ⟨_, Tryz.func172, by kernel_rfl, Tryz.call172⟩
theorem i174 : Is Tryz.prog 174 c_kern_Kernel_own := ⟨_, Tryz.func174, by kernel_rfl, Tryz.call174⟩
theorem i178 : Is Tryz.prog 178 c_pmap_Map_made := ⟨_, Tryz.func178, by kernel_rfl, Tryz.call178⟩
theorem i179 : Is Tryz.prog 179 c_pmap_Map_below := ⟨_, Tryz.func179, by kernel_rfl, Tryz.call179⟩
theorem i180 : Is Tryz.prog 180 c_pmap_Map_give := ⟨_, Tryz.func180, by kernel_rfl, Tryz.call180⟩
theorem i181 : Is Tryz.prog 181 c_tlb_Table_drop := ⟨_, Tryz.func181, by kernel_rfl, Tryz.call181⟩
theorem i184 : Is Tryz.prog 184 c_amap_Pool_made := ⟨_, Tryz.func184, by kernel_rfl, Tryz.call184⟩
theorem i185 : Is Tryz.prog 185 c_spread_New := ⟨_, Tryz.func185, by kernel_rfl, Tryz.call185⟩
theorem i186 : Is Tryz.prog 186 c_spread_Counts_Add := ⟨_, Tryz.func186, by kernel_rfl, Tryz.call186⟩
theorem i187 : Is Tryz.prog 187 c_slices_Index_amap_one_amap_one := ⟨_, Tryz.func187, by kernel_rfl, Tryz.call187⟩
theorem i189 : Is Tryz.prog 189 c_amap_Pool_Set := ⟨_, Tryz.func189, by kernel_rfl, Tryz.call189⟩
theorem i190 : Is Tryz.prog 190 c_anon_Pool_Make := ⟨_, Tryz.func190, by kernel_rfl, Tryz.call190⟩
theorem i191 : Is Tryz.prog 191 c_frames_Pool_Own := ⟨_, Tryz.func191, by kernel_rfl, Tryz.call191⟩
theorem i194 : Is Tryz.prog 194 c_slices_IndexFunc_kern_area_kern_area := ⟨_, Tryz.func194, by kernel_rfl, Tryz.call194⟩
theorem i196 : Is Tryz.prog 196 c_slices_Insert_kern_area_kern_area := ⟨_, Tryz.func196, by kernel_rfl, Tryz.call196⟩
theorem i200 : Is Tryz.prog 200 c_kern_Kernel_out := ⟨_, Tryz.func200, by kernel_rfl, Tryz.call200⟩
theorem i205 : Is Tryz.prog 205 c_kern_Kernel_put := ⟨_, Tryz.func205, by kernel_rfl, Tryz.call205⟩
theorem i214 : Is Tryz.prog 214 c_object_Pool_made := ⟨_, Tryz.func214, by kernel_rfl, Tryz.call214⟩
theorem i215 : Is Tryz.prog 215 c_anon_Pool_change := ⟨_, Tryz.func215, by kernel_rfl, Tryz.call215⟩
theorem i216 : Is Tryz.prog 216 c_anon_Pool_Put_1 := ⟨_, Tryz.func216, by kernel_rfl, Tryz.call216⟩
theorem i217 : Is Tryz.prog 217 c_frames_Pool_with := ⟨_, Tryz.func217, by kernel_rfl, Tryz.call217⟩
theorem i218 : Is Tryz.prog 218 c_frames_Pool_Loan_1 := ⟨_, Tryz.func218, by kernel_rfl, Tryz.call218⟩
theorem i219 : Is Tryz.prog 219 c_frames_count := ⟨_, Tryz.func219, by kernel_rfl, Tryz.call219⟩
theorem i220 : Is Tryz.prog 220 c_frames_Pool_Give_1 := ⟨_, Tryz.func220, by kernel_rfl, Tryz.call220⟩
theorem i221 : Is Tryz.prog 221 c_slices_AppendSeq_int_int := ⟨_, Tryz.func221, by kernel_rfl, Tryz.call221⟩
theorem i222 : Is Tryz.prog 222 c_slices_pdqsortOrdered_int := ⟨_, Tryz.func222, by kernel_rfl, Tryz.call222⟩
theorem i223 : Is Tryz.prog 223 c_math_bits_Len := ⟨_, Tryz.func223, by kernel_rfl, Tryz.call223⟩
theorem i224 : Is Tryz.prog 224 c_slices_BinarySearchFunc_api_Entry_api_Entry_int := ⟨_, Tryz.func224, by kernel_rfl, Tryz.call224⟩
theorem i225 : Is Tryz.prog 225 c_entry_Find_1 := ⟨_, Tryz.func225, by kernel_rfl, Tryz.call225⟩
theorem i226 : Is Tryz.prog 226 c_kern_proc_at_1 := ⟨_, Tryz.func226, by kernel_rfl, Tryz.call226⟩
theorem i227 : Is Tryz.prog 227 c_amap_Pool_Slots := ⟨_, Tryz.func227, by kernel_rfl, Tryz.call227⟩
theorem i228 : Is Tryz.prog 228 c_amap_Pool_of := ⟨_, Tryz.func228, by kernel_rfl, Tryz.call228⟩
theorem i232 : Is Tryz.prog 232 c_slices_Index_int_int := ⟨_, Tryz.func232, by kernel_rfl, Tryz.call232⟩
theorem i235 : Is Tryz.prog 235 c_ring_Rows_int_Rows := ⟨_, Tryz.func235, by kernel_rfl, Tryz.call235⟩
theorem i238 : Is Tryz.prog 238 c_maps_Keys_map_int_kern_proc_int_kern_proc := ⟨_, Tryz.func238, by kernel_rfl, Tryz.call238⟩
theorem i239 : Is Tryz.prog 239 c_pmap_Map_All_1 := ⟨_, Tryz.func239, by kernel_rfl, Tryz.call239⟩
theorem i240 : Is Tryz.prog 240 c_walk_Leaves := ⟨_, Tryz.func240, by kernel_rfl, Tryz.call240⟩
theorem i241 : Is Tryz.prog 241 c_pmap_Map_change := ⟨_, Tryz.func241, by kernel_rfl, Tryz.call241⟩
theorem i244 : Is Tryz.prog 244 c_slices_IndexFunc_frames_Frame_frames_Frame := ⟨_, Tryz.func244, by kernel_rfl, Tryz.call244⟩
theorem i245 : Is Tryz.prog 245 c_frames_Pool_Take_1 := ⟨_, Tryz.func245, by kernel_rfl, Tryz.call245⟩
theorem i248 : Is Tryz.prog 248 c_maps_Keys_map_int_object_one_int_object_one := ⟨_, Tryz.func248, by kernel_rfl, Tryz.call248⟩
theorem i251 : Is Tryz.prog 251 c_entry_Clip := ⟨_, Tryz.func251, by kernel_rfl, Tryz.call251⟩
theorem i252 : Is Tryz.prog 252 c_slices_DeleteFunc_api_Entry_api_Entry := ⟨_, Tryz.func252, by kernel_rfl, Tryz.call252⟩
theorem i254 : Is Tryz.prog 254 c_entry_room := ⟨_, Tryz.func254, by kernel_rfl, Tryz.call254⟩
theorem i255 : Is Tryz.prog 255 c_slices_Insert_api_Entry_api_Entry := ⟨_, Tryz.func255, by kernel_rfl, Tryz.call255⟩
theorem i257 : Is Tryz.prog 257 c_tlb_Table_Find := ⟨_, Tryz.func257, by kernel_rfl, Tryz.call257⟩
theorem i258 : Is Tryz.prog 258 c_pte_May := ⟨_, Tryz.func258, by kernel_rfl, Tryz.call258⟩
theorem i259 : Is Tryz.prog 259 c_walk_Walk := ⟨_, Tryz.func259, by kernel_rfl, Tryz.call259⟩
theorem i260 : Is Tryz.prog 260 c_pmap_Map_Root := ⟨_, Tryz.func260, by kernel_rfl, Tryz.call260⟩
theorem i261 : Is Tryz.prog 261 c_walk_Look := ⟨_, Tryz.func261, by kernel_rfl, Tryz.call261⟩
theorem i262 : Is Tryz.prog 262 c_tlb_Table_Put := ⟨_, Tryz.func262, by kernel_rfl, Tryz.call262⟩
theorem i263 : Is Tryz.prog 263 c_kern_Kernel_private := ⟨_, Tryz.func263, by kernel_rfl, Tryz.call263⟩
theorem i264 : Is Tryz.prog 264 c_pmap_Map_Enter := ⟨_, Tryz.func264, by kernel_rfl, Tryz.call264⟩
theorem i266 : Is Tryz.prog 266 c_kern_Kernel_begin := ⟨_, Tryz.func266, by kernel_rfl, Tryz.call266⟩
theorem i267 : Is Tryz.prog 267 c_amap_Pool_Cover := ⟨_, Tryz.func267, by kernel_rfl, Tryz.call267⟩
theorem i270 : Is Tryz.prog 270 c_amap_Pool_known := ⟨_, Tryz.func270, by kernel_rfl, Tryz.call270⟩
theorem i273 : Is Tryz.prog 273 c_phys_Memory_Word := ⟨_, Tryz.func273, by kernel_rfl, Tryz.call273⟩
theorem i274 : Is Tryz.prog 274 c_pte_Decode := ⟨_, Tryz.func274, by kernel_rfl, Tryz.call274⟩
theorem i275 : Is Tryz.prog 275 c_pte_Kind := ⟨_, Tryz.func275, by kernel_rfl, Tryz.call275⟩
theorem i276 : Is Tryz.prog 276 c_phys_Memory_SetWord := ⟨_, Tryz.func276, by kernel_rfl, Tryz.call276⟩
theorem i277 : Is Tryz.prog 277 c_spread_Counts_Grow := ⟨_, Tryz.func277, by kernel_rfl, Tryz.call277⟩
theorem i278 : Is Tryz.prog 278 c_spread_Counts_made := ⟨_, Tryz.func278, by kernel_rfl, Tryz.call278⟩
theorem i279 : Is Tryz.prog 279 c_spread_Counts_parts := ⟨_, Tryz.func279, by kernel_rfl, Tryz.call279⟩
theorem i280 : Is Tryz.prog 280 c_spread_split := ⟨_, Tryz.func280, by kernel_rfl, Tryz.call280⟩
theorem i281 : Is Tryz.prog 281 c_slices_Clone_api_Run_api_Run := ⟨_, Tryz.func281, by kernel_rfl, Tryz.call281⟩
theorem i282 : Is Tryz.prog 282 c_spread_join := ⟨_, Tryz.func282, by kernel_rfl, Tryz.call282⟩
theorem i284 : Is Tryz.prog 284 c_frames_Pool_Own_1 := ⟨_, Tryz.func284, by kernel_rfl, Tryz.call284⟩
theorem i290 : Is Tryz.prog 290 c_pmap_Map_Remove := ⟨_, Tryz.func290, by kernel_rfl, Tryz.call290⟩
theorem i297 : Is Tryz.prog 297 c_slices_insertionSortOrdered_int := ⟨_, Tryz.func297, by kernel_rfl, Tryz.call297⟩
theorem i307 : Is Tryz.prog 307 c_math_bits_Len64 := ⟨_, Tryz.func307, by kernel_rfl, Tryz.call307⟩
theorem i312 : Is Tryz.prog 312 c_maps_Keys_map_int_kern_proc_int_kern_proc_1 := ⟨_, Tryz.func312, by kernel_rfl, Tryz.call312⟩
theorem i313 : Is Tryz.prog 313 c_walk_Leaves_1 := ⟨_, Tryz.func313, by kernel_rfl, Tryz.call313⟩
theorem i314 : Is Tryz.prog 314 c_walk_Leaves_1_1 := ⟨_, Tryz.func314, by kernel_rfl, Tryz.call314⟩
theorem i315 : Is Tryz.prog 315 c_walk_read := ⟨_, Tryz.func315, by kernel_rfl, Tryz.call315⟩
theorem i316 : Is Tryz.prog 316 c_walk_below := ⟨_, Tryz.func316, by kernel_rfl, Tryz.call316⟩
theorem i317 : Is Tryz.prog 317 c_pmap_Map_Find := ⟨_, Tryz.func317, by kernel_rfl, Tryz.call317⟩
theorem i318 : Is Tryz.prog 318 c_walk_Place := ⟨_, Tryz.func318, by kernel_rfl, Tryz.call318⟩
theorem i319 : Is Tryz.prog 319 c_pte_Encode := ⟨_, Tryz.func319, by kernel_rfl, Tryz.call319⟩
theorem i320 : Is Tryz.prog 320 c_pmap_Map_tidy := ⟨_, Tryz.func320, by kernel_rfl, Tryz.call320⟩
theorem i322 : Is Tryz.prog 322 c_maps_Keys_map_int_object_one_int_object_one_1 := ⟨_, Tryz.func322, by kernel_rfl, Tryz.call322⟩
theorem i325 : Is Tryz.prog 325 c_slices_IndexFunc_api_Entry_api_Entry := ⟨_, Tryz.func325, by kernel_rfl, Tryz.call325⟩
theorem i328 : Is Tryz.prog 328 c_pte_Canonical := ⟨_, Tryz.func328, by kernel_rfl, Tryz.call328⟩
theorem i329 : Is Tryz.prog 329 c_pte_Split := ⟨_, Tryz.func329, by kernel_rfl, Tryz.call329⟩
theorem i330 : Is Tryz.prog 330 c_tlb_Table_Put_1 := ⟨_, Tryz.func330, by kernel_rfl, Tryz.call330⟩
theorem i331 : Is Tryz.prog 331 c_kern_Kernel_stored := ⟨_, Tryz.func331, by kernel_rfl, Tryz.call331⟩
theorem i332 : Is Tryz.prog 332 c_kern_Kernel_back := ⟨_, Tryz.func332, by kernel_rfl, Tryz.call332⟩
theorem i333 : Is Tryz.prog 333 c_kern_Kernel_fresh := ⟨_, Tryz.func333, by kernel_rfl, Tryz.call333⟩
theorem i334 : Is Tryz.prog 334 c_pte_Index := ⟨_, Tryz.func334, by kernel_rfl, Tryz.call334⟩
theorem i336 : Is Tryz.prog 336 c_pte_Flags := ⟨_, Tryz.func336, by kernel_rfl, Tryz.call336⟩
theorem i337 : Is Tryz.prog 337 c_spread_Counts_At := ⟨_, Tryz.func337, by kernel_rfl, Tryz.call337⟩
theorem i340 : Is Tryz.prog 340 c_phys_Memory_cell := ⟨_, Tryz.func340, by kernel_rfl, Tryz.call340⟩
theorem i341 : Is Tryz.prog 341 c_pte_low := ⟨_, Tryz.func341, by kernel_rfl, Tryz.call341⟩
theorem i342 : Is Tryz.prog 342 c_spread_Counts_parts_1 := ⟨_, Tryz.func342, by kernel_rfl, Tryz.call342⟩
theorem i343 : Is Tryz.prog 343 c_slices_IndexFunc_api_Run_api_Run := ⟨_, Tryz.func343, by kernel_rfl, Tryz.call343⟩
theorem i344 : Is Tryz.prog 344 c_spread_split_1 := ⟨_, Tryz.func344, by kernel_rfl, Tryz.call344⟩
theorem i346 : Is Tryz.prog 346 c_spread_Counts_Len := ⟨_, Tryz.func346, by kernel_rfl, Tryz.call346⟩
theorem i348 : Is Tryz.prog 348 c_pmap_Map_Remove_1 := ⟨_, Tryz.func348, by kernel_rfl, Tryz.call348⟩
theorem i355 : Is Tryz.prog 355 c_pmap_Map_bare := ⟨_, Tryz.func355, by kernel_rfl, Tryz.call355⟩
theorem i357 : Is Tryz.prog 357 c_pte_gather := ⟨_, Tryz.func357, by kernel_rfl, Tryz.call357⟩
theorem tabSound : AllB (Is Tryz.prog) tab := ⟨⟨⟨⟨⟨⟨⟨⟨trivial, i2, trivial⟩, i5, ⟨trivial, i7, trivial⟩⟩, i8, ⟨⟨trivial, i9, trivial⟩, i10, trivial⟩⟩, i11, ⟨⟨⟨trivial, i12, trivial⟩, i13, trivial⟩, i14, ⟨⟨trivial, i15, trivial⟩, i16, trivial⟩⟩⟩, i17, ⟨⟨⟨⟨trivial, i18, trivial⟩, i19, trivial⟩, i22, ⟨⟨trivial, i23, trivial⟩, i24, trivial⟩⟩, i25, ⟨⟨⟨trivial, i26, trivial⟩, i27, trivial⟩, i28, ⟨⟨trivial, i29, trivial⟩, i30, trivial⟩⟩⟩⟩, i31, ⟨⟨⟨⟨⟨trivial, i32, trivial⟩, i34, trivial⟩, i35, ⟨⟨trivial, i38, trivial⟩, i39, trivial⟩⟩, i44, ⟨⟨⟨trivial, i45, trivial⟩, i47, trivial⟩, i49, ⟨⟨trivial, i50, trivial⟩, i51, trivial⟩⟩⟩, i52, ⟨⟨⟨⟨trivial, i53, trivial⟩, i54, trivial⟩, i55, ⟨⟨trivial, i56, trivial⟩, i57, trivial⟩⟩, i58, ⟨⟨⟨trivial, i59, trivial⟩, i62, trivial⟩, i64, ⟨⟨trivial, i67, trivial⟩, i68, trivial⟩⟩⟩⟩⟩, i69, ⟨⟨⟨⟨⟨⟨trivial, i70, trivial⟩, i77, ⟨trivial, i79, trivial⟩⟩, i80, ⟨⟨trivial, i82, trivial⟩, i83, trivial⟩⟩, i84, ⟨⟨⟨trivial, i86, trivial⟩, i93, trivial⟩, i96, ⟨⟨trivial, i103, trivial⟩, i108, trivial⟩⟩⟩, i109, ⟨⟨⟨⟨trivial, i113, trivial⟩, i115, trivial⟩, i116, ⟨⟨trivial, i117, trivial⟩, i118, trivial⟩⟩, i119, ⟨⟨⟨trivial, i120, trivial⟩, i121, trivial⟩, i122, ⟨⟨trivial, i123, trivial⟩, i124, trivial⟩⟩⟩⟩, i125, ⟨⟨⟨⟨⟨trivial, i126, trivial⟩, i128, trivial⟩, i140, ⟨⟨trivial, i141, trivial⟩, i143, trivial⟩⟩, i144, ⟨⟨⟨trivial, i145, trivial⟩, i146, trivial⟩, i151, ⟨⟨trivial, i156, trivial⟩, i158, trivial⟩⟩⟩, i159, ⟨⟨⟨⟨trivial, i160, trivial⟩, i161, trivial⟩, i162, ⟨⟨trivial, i163, trivial⟩, i164, trivial⟩⟩, i165, ⟨⟨⟨trivial, i166, trivial⟩, i170, trivial⟩, i171, ⟨⟨trivial, i172, trivial⟩, i174, trivial⟩⟩⟩⟩⟩⟩, i178, ⟨⟨⟨⟨⟨⟨⟨trivial, i179, trivial⟩, i180, ⟨trivial, i181, trivial⟩⟩, i184, ⟨⟨trivial, i185, trivial⟩, i186, trivial⟩⟩, i187, ⟨⟨⟨trivial, i189, trivial⟩, i190, trivial⟩, i191, ⟨⟨trivial, i194, trivial⟩, i196, trivial⟩⟩⟩, i200, ⟨⟨⟨⟨trivial, i205, trivial⟩, i214, trivial⟩, i215, ⟨⟨trivial, i216, trivial⟩, i217, trivial⟩⟩, i218, ⟨⟨⟨trivial, i219, trivial⟩, i220, trivial⟩, i221, ⟨⟨trivial, i222, trivial⟩, i223, trivial⟩⟩⟩⟩, i224, ⟨⟨⟨⟨⟨trivial, i225, trivial⟩, i226, trivial⟩, i227, ⟨⟨trivial, i228, trivial⟩, i232, trivial⟩⟩, i235, ⟨⟨⟨trivial, i238, trivial⟩, i239, trivial⟩, i240, ⟨⟨trivial, i241, trivial⟩, i244, trivial⟩⟩⟩, i245, ⟨⟨⟨⟨trivial, i248, trivial⟩, i251, trivial⟩, i252, ⟨⟨trivial, i254, trivial⟩, i255, trivial⟩⟩, i257, ⟨⟨⟨trivial, i258, trivial⟩, i259, trivial⟩, i260, ⟨⟨trivial, i261, trivial⟩, i262, trivial⟩⟩⟩⟩⟩, i263, ⟨⟨⟨⟨⟨⟨trivial, i264, trivial⟩, i266, trivial⟩, i267, ⟨⟨trivial, i270, trivial⟩, i273, trivial⟩⟩, i274, ⟨⟨⟨trivial, i275, trivial⟩, i276, trivial⟩, i277, ⟨⟨trivial, i278, trivial⟩, i279, trivial⟩⟩⟩, i280, ⟨⟨⟨⟨trivial, i281, trivial⟩, i282, trivial⟩, i284, ⟨⟨trivial, i290, trivial⟩, i297, trivial⟩⟩, i307, ⟨⟨⟨trivial, i312, trivial⟩, i313, trivial⟩, i314, ⟨⟨trivial, i315, trivial⟩, i316, trivial⟩⟩⟩⟩, i317, ⟨⟨⟨⟨⟨trivial, i318, trivial⟩, i319, trivial⟩, i320, ⟨⟨trivial, i322, trivial⟩, i325, trivial⟩⟩, i328, ⟨⟨⟨trivial, i329, trivial⟩, i330, trivial⟩, i331, ⟨⟨trivial, i332, trivial⟩, i333, trivial⟩⟩⟩, i334, ⟨⟨⟨⟨trivial, i336, trivial⟩, i337, trivial⟩, i340, ⟨⟨trivial, i341, trivial⟩, i342, trivial⟩⟩, i343, ⟨⟨⟨trivial, i344, trivial⟩, i346, trivial⟩, i348, ⟨⟨trivial, i355, trivial⟩, i357, trivial⟩⟩⟩⟩⟩⟩⟩
end Go.Proofs.YtlkfclgkinaibaaGreat

namespace Go.Proofs.YtlkfclgkinaibaaGreat
abbrev isLives (n : Nat) : Bool := Nat.beq n n_law18_lives || Nat.beq n n_law19_lives || Nat.beq n n_law20_lives || Nat.beq n n_slices_Sorted_int
end Go.Proofs.YtlkfclgkinaibaaGreat

namespace Go.Proofs.YtlkfclgkinaibaaGreat
def SlIs (v : AV) (e es k : Nat) (d : Dat) (w : Bool) (cs : List Chunk) : Prop :=
  (v = .nilsl ∧ k = 0 ∧ d.len = 0 ∧ cs = []) ∨ (v = .esl ∧ k = 0 ∧ d.len = 0 ∧ cs = [] ∧ w = false) ∨
  (∃ id off cap D e' es' sf, v = .sl id off k cap ∧ cs = [.pt id (.row e' es' sf (!w) D)] ∧ D.take off (k * es) = some d ∧ k ≤ cap ∧ (w = true → off + cap * es ≤ D.len)) ∨
  (∃ id idx D, v = .ssl id idx es k ∧ cs = [.pt id (.row e es true false D)] ∧ D.take (idx * es) (k * es) = some d ∧ w = true ∧ (idx + k) * es = D.len)
theorem wrap_id {k : IntKind} {n : Int} (h1 : k.min ≤ n) (h2 : n ≤ k.max) : k.wrap n = n := by
  cases k <;> simp only [IntKind.min, IntKind.max, IntKind.signed, IntKind.bits, IntKind.wrap] at * <;> (simp at h1 h2 ⊢) <;> (try split) <;> omega
theorem wrap64 {n : Int} (h1 : -9223372036854775808 ≤ n) (h2 : n ≤ 9223372036854775807) : IntKind.i64.wrap n = n := wrap_id h1 h2
theorem d_add {a b : Int} {h : AHeap} (h1 : -9223372036854775808 ≤ a + b) (h2 : a + b ≤ 9223372036854775807) : Does (.bin .add) [.int .i64 a, .int .i64 b] h (.int .i64 (a + b)) h := ⟨rfl, by
  simp only [aop, binInt, ne_eq, not_true, if_false, Option.map_some, wrap64 h1 h2]⟩
theorem d_sub {a b : Int} {h : AHeap} (h1 : -9223372036854775808 ≤ a - b) (h2 : a - b ≤ 9223372036854775807) : Does (.bin .sub) [.int .i64 a, .int .i64 b] h (.int .i64 (a - b)) h := ⟨rfl, by
  simp only [aop, binInt, ne_eq, not_true, if_false, Option.map_some, wrap64 h1 h2]⟩
abbrev SlC (v : AV) (e es k : Nat) (d : Dat) (w : Bool) : Chunk := pk 10 v (SlIs v e es k d w)
section
variable {h : AHeap} {L R : List Chunk} {v : AV} {e es k : Nat} {d : Dat} {w : Bool}
theorem SlIs.len {cs : List Chunk} (x : SlIs v e es k d w cs) : sliceLen v = some k := by
  rcases x with ⟨rfl, rfl, _⟩ | ⟨rfl, rfl, _⟩ | ⟨id, off, cap, D, e', es', sf, rfl, _⟩ | ⟨id, idx, D, rfl, _⟩ <;> rfl
theorem SlIs.nj {cs : List Chunk} (x : SlIs v e es k d w cs) : v.notJunk = some v := by
  rcases x with ⟨rfl, _⟩ | ⟨rfl, _⟩ | ⟨id, off, cap, D, e', es', sf, rfl, _⟩ | ⟨id, idx, D, rfl, _⟩ <;> rfl
theorem d_lens {k : Nat} {v : AV} (hk : sliceLen v = some k) : Does .lens [v] h (.int .i64 k) h := ⟨rfl, by simp only [aop, hk]; rfl⟩
theorem St.slice {id n cap e' es' : Nat} {sf : Bool} {D : Dat} (st : St h (.pt id (.row e' es' sf false D) :: L)) (h1 : D.take 0 (n * es) = some d) (h2 : n ≤ cap) (h3 : cap * es ≤ D.len) : St h (SlC (.sl id 0 n cap) e es n d true :: L) :=
  St.pack (cs := [.pt id (.row e' es' sf false D)]) st (.inr (.inr (.inl ⟨id, 0, cap, D, e', es', sf, rfl, rfl, h1, h2, fun _ => by omega⟩)))
end
end Go.Proofs.YtlkfclgkinaibaaGreat
