/- BY PROGRAM (wip/tool/shake.py): own texts, one behind the other, without what is not needed. -/
import Derived.Control
import Derived.Calls
import Derived.KernelRfl
import Derived.Laws.Sem
import Derived.Laws.Cells
import Derived.Laws.World
import GoSem.Dispatch
import Derived.Laws.StructEq
import Derived.IntWalk
import Derived.WideKeyRuns
import Derived.Laws.BytesArg
import Derived.Orders
import Derived.ChangeArms
import Derived.OpenShut
import Derived.ChangeShapes
import Derived.ProofKit
import Derived.Test.YtlkfclgkinaibaaGreatProg
import Derived.Test.YtlkfclgkinaibaaGreatZKCT3

namespace Go.Proofs.YtlkfclgkinaibaaGreat
abbrev Mv (d t : Nat) : AIn := ⟨some d, .mv, [.tmp t], none⟩
abbrev Mw (d t s : Nat) (b : Bool) : AIn := ⟨some d, .mv, [.tmp t], some (s, b)⟩
abbrev Mn (d : Nat) (n : Int) : AIn := ⟨some d, .mv, [.lit (.int .i64 n)], none⟩
abbrev Kc (d : Nat) (l : List Opd) : AIn := ⟨some d, .callv, l, none⟩
abbrev Ld (d t : Nat) : AIn := ⟨some d, .load1, [.tmp t], none⟩
abbrev Nc (d t : Nat) : AIn := ⟨some d, .nilCheck, [.tmp t], none⟩
abbrev Fa (d n t : Nat) : AIn := ⟨some d, .fieldAddr n, [.tmp t], none⟩
abbrev Xt (d n t : Nat) : AIn := ⟨some d, .extract n, [.tmp t], none⟩
abbrev Zi : AV := .int .i64 0
abbrev Tt : Opd := .lit (.bool true)
abbrev Tf : Opd := .lit (.bool false)
abbrev Bi (d : Nat) (o : BinOp) (a b : Opd) : AIn := ⟨some d, .bin o, [a, b], none⟩
abbrev ty_frames_Frame : Nat := 80
abbrev ty_int : Nat := 3
abbrev ty_api_PTE : Nat := 204
abbrev n_gosem_cut_init : Nat := 2
def c_gosem_cut_init : AFn := ⟨1, [], .region [Kc 0 [F 1]]⟩
abbrev n_law18_KernCopies : Nat := 3
def c_law18_KernCopies_L0 : ACode :=
 .seq (.seq (.region [Mv 34 8, Mv 35 5, Bi 36 .lss (T 34) (T 35)])
 (.cond (T 36)
 (.skip)
 (.exit 0)))
 (.seq (.block 1 (.seq (.region [Mv 39 6, Mv 40 8, Mv 41 8, I 42 (.build (.agg [Zi, Zi, Zi, Zi, Zi, (.bool false), Zi, Zi, (.bool false), Zi, Zi, Zi, Zi, Zi]) [(0, 1), (1, 1), (2, 1), (10, 1), (11, 1)]) [N 9, N 1, T 40, N 1, T 41], Kc 43 [F 8, T 39, T 42], I 44 (.field 0 1 false) [T 43], Bi 45 .neq (T 44) (N 0)])
 (.cond (T 45)
 (.seq (.region [I 4 .mv [Tf]])
 (.ret))
 (.skip))))
 (.region [Mv 37 8, Bi 38 .add (T 37) (N 1), Mv 8 38]))
def c_law18_KernCopies_L1 : ACode :=
 .seq (.seq (.region [Mv 59 10, Mv 60 5, Bi 61 .lss (T 59) (T 60)])
 (.cond (T 61)
 (.skip)
 (.exit 2)))
 (.seq (.block 3 (.seq (.region [Mv 64 6, Mv 65 10, I 66 (.build (.agg [Zi, Zi, Zi, Zi, Zi, (.bool false), Zi, Zi, (.bool false), Zi, Zi, Zi, Zi, Zi]) [(0, 1), (1, 1), (2, 1), (10, 1)]) [N 8, N 2, T 65, N 1], Kc 67 [F 8, T 64, T 66], I 11 (.alloc 30 2 (.vals [Zi, Zi])) [], J (.store 2) [T 11, T 67]])
 (.seq (.region [Fa 68 0 11, Ld 69 68, Bi 70 .neq (T 69) (N 0), Mv 71 70, IG 72 (.fieldAddr 1) [T 11] 71 false, IG 73 .load1 [T 72] 71 false, Mw 74 10 71 false, IG 75 (.bin .neq) [T 73, T 74] 71 false, I 76 .pick [T 71, Tt, T 75]])
 (.cond (T 76)
 (.seq (.region [I 4 .mv [Tf]])
 (.ret))
 (.skip)))))
 (.region [Mv 62 10, Bi 63 .add (T 62) (N 1), Mv 10 63]))
def c_law18_KernCopies : AFn := ⟨127, [.tmp 4], .seq (.region [I 4 .mv [Tf]])
 (.seq (.region [Mv 15 0, I 16 (.bin .rem) [T 15, .lit (.int .u64 12)], I 17 (.conv .i64) [T 16], Bi 18 .add (N 1) (T 17), Mv 5 18])
 (.seq (.region [I 20 (.build (.agg [Zi, Zi, Zi, Zi]) [(0, 1), (2, 1), (3, 1)]) [N 60, N 20, N 5], Kc 21 [F 7, T 20, .lit .nilsl], Mv 19 21, Xt 22 0 19, Xt 23 1 19, Mv 6 22, Mv 7 23])
 (.seq (.seq (.region [Mv 24 7, Bi 25 .neq (T 24) (N 0), Mv 26 25, Mw 27 6 26 false, Mw 28 5 26 false, IG 29 (.build (.agg [Zi, Zi, Zi, Zi, Zi, (.bool false), Zi, Zi, (.bool false), Zi, Zi, Zi, Zi, Zi]) [(0, 1), (1, 1), (2, 1), (3, 1), (4, 1), (8, 1)]) [N 1, N 1, N 0, T 28, N 3, Tt] 26 false, IG 30 .callv [F 8, T 27, T 29] 26 false, IG 31 (.field 0 1 false) [T 30] 26 false, IG 32 (.bin .neq) [T 31, N 0] 26 false, I 33 .pick [T 26, Tt, T 32]])
 (.cond (T 33)
 (.seq (.region [I 4 .mv [Tf]])
 (.ret))
 (.skip)))
 (.seq (.seq (.region [Mn 8 0])
 (.block 0 (.loop c_law18_KernCopies_L0)))
 (.seq (.region [Mv 46 6, Kc 47 [F 9, T 46], I 48 .lens [T 47], Mv 9 48])
 (.seq (.seq (.region [Mv 49 9, Mv 50 5, Bi 51 .neq (T 49) (T 50), Mv 52 51, Mw 53 6 52 false, IG 54 (.build (.agg [Zi, Zi, Zi, Zi, Zi, (.bool false), Zi, Zi, (.bool false), Zi, Zi, Zi, Zi, Zi]) [(0, 1), (1, 1)]) [N 10, N 1] 52 false, IG 55 .callv [F 8, T 53, T 54] 52 false, IG 56 (.field 1 1 false) [T 55] 52 false, IG 57 (.bin .neq) [T 56, N 2] 52 false, I 58 .pick [T 52, Tt, T 57]])
 (.cond (T 58)
 (.seq (.region [I 4 .mv [Tf]])
 (.ret))
 (.skip)))
 (.seq (.seq (.region [Mn 10 0])
 (.block 2 (.loop c_law18_KernCopies_L1)))
 (.seq (.seq (.region [Mv 77 6, Kc 78 [F 9, T 77], I 79 .lens [T 78], Mv 80 5, Bi 81 .neq (T 79) (T 80)])
 (.cond (T 81)
 (.seq (.region [I 4 .mv [Tf]])
 (.ret))
 (.skip)))
 (.seq (.region [Mv 82 1, Mv 83 5, I 84 (.conv .u64) [T 83], Bi 85 .rem (T 82) (T 84), I 86 (.conv .i64) [T 85], Mv 12 86])
 (.seq (.region [Mv 87 6, Mv 88 12, I 89 (.build (.agg [Zi, Zi, Zi, Zi, Zi, (.bool false), Zi, Zi, (.bool false), Zi, Zi, Zi, Zi, Zi]) [(0, 1), (1, 1), (2, 1), (10, 1), (11, 1)]) [N 9, N 2, T 88, N 1, N 99], Kc 90 [F 8, T 87, T 89], I 13 (.alloc 30 2 (.vals [Zi, Zi])) [], J (.store 2) [T 13, T 90]])
 (.seq (.region [Mv 91 6, Mv 92 12, I 93 (.build (.agg [Zi, Zi, Zi, Zi, Zi, (.bool false), Zi, Zi, (.bool false), Zi, Zi, Zi, Zi, Zi]) [(0, 1), (1, 1), (2, 1), (10, 1)]) [N 8, N 1, T 92, N 1], Kc 94 [F 8, T 91, T 93], I 14 (.alloc 30 2 (.vals [Zi, Zi])) [], J (.store 2) [T 14, T 94]])
 (.seq (.seq (.region [Fa 95 0 13, Ld 96 95, Bi 97 .neq (T 96) (N 0), Mv 98 97, IG 99 (.fieldAddr 1) [T 14] 98 false, IG 100 .load1 [T 99] 98 false, Mw 101 12 98 false, IG 102 (.bin .neq) [T 100, T 101] 98 false, I 103 .pick [T 98, Tt, T 102], Mv 104 103, Mw 105 6 104 false, IG 106 .callv [F 9, T 105] 104 false, IG 107 .lens [T 106] 104 false, Mw 108 5 104 false, IG 109 (.bin .add) [T 108, N 1] 104 false, IG 110 (.bin .neq) [T 107, T 109] 104 false, I 111 .pick [T 104, Tt, T 110]])
 (.cond (T 111)
 (.seq (.region [I 4 .mv [Tf]])
 (.ret))
 (.skip)))
 (.seq (.region [Mv 112 6, I 113 (.build (.agg [Zi, Zi, Zi, Zi, Zi, (.bool false), Zi, Zi, (.bool false), Zi, Zi, Zi, Zi, Zi]) [(0, 1), (1, 1)]) [N 11, N 2], Kc 114 [F 8, T 112, T 113], I 115 (.field 0 1 false) [T 114], Bi 116 .eql (T 115) (N 0), Mv 117 116, Mw 118 6 117 true, IG 119 .callv [F 9, T 118] 117 true, IG 120 .lens [T 119] 117 true, Mw 121 5 117 true, IG 122 (.bin .eql) [T 120, T 121] 117 true, I 123 .pick [T 117, T 122, Tf], Mv 124 123, IG 125 .callv [F 10] 124 true, I 126 .pick [T 124, T 125, Tf], Mv 4 126])
 (.ret))))))))))))))⟩
abbrev n_kern_New : Nat := 7
def c_kern_New_L0 : ACode :=
 .seq (.region [Bi 42 .lss (T 41) (T 40)])
 (.seq (.cond (T 42)
 (.skip)
 (.exit 0))
 (.seq (.block 1 (.seq (.region [I 43 (.indexs 1) [T 39, T 41], Ld 44 43, Mv 8 44])
 (.region [Mv 45 6, Nc 46 45, Fa 47 4 46, Ld 48 47, Mv 49 8, Kc 50 [F 33, T 48, T 49]])))
 (.region [Bi 51 .add (T 41) (N 1), Mv 41 51])))
def c_kern_New : AFn := ⟨61, [.tmp 4, .tmp 5], .seq (.region [I 2 (.box 28 4) [T 0], I 4 .mv [.lit .nilptr], Mn 5 0])
 (.seq (.seq (.region [I 11 (.loadn 4) [T 2], Mv 12 1, Kc 13 [F 23, T 11, T 12], I 14 (.un .not) [T 13]])
 (.cond (T 14)
 (.seq (.region [I 4 .mv [.lit .nilptr], Mn 5 2])
 (.ret))
 (.skip)))
 (.seq (.draw [(⟨0, Fa 15 0 2, [], false⟩ ::
 ⟨1, Ld 16 15, [], false⟩ ::
 ⟨3, Fa 18 0 2, [], false⟩ ::
 ⟨4, Ld 19 18, [], false⟩ ::
 ⟨5, Fa 20 1 2, [], false⟩ ::
 ⟨6, Ld 21 20, [], false⟩ ::
 ⟨8, Fa 23 2 2, [], false⟩ ::
 ⟨9, Ld 24 23, [], false⟩ ::
 ⟨11, Fa 26 2 2, [], false⟩ ::
 ⟨12, Ld 27 26, [], false⟩ ::
 ⟨18, Fa 33 3 2, [], false⟩ ::
 ⟨19, Ld 34 33, [], false⟩ ::
 ⟨2, Kc 17 [F 24, T 16], [(4, Ld 19 18), (6, Ld 21 20), (9, Ld 24 23), (12, Ld 27 26), (19, Ld 34 33)], false⟩ ::
 ⟨7, Kc 22 [F 25, T 19, T 21], [(9, Ld 24 23), (12, Ld 27 26), (19, Ld 34 33)], false⟩ ::
 ⟨10, Kc 25 [F 26, T 24], [(12, Ld 27 26), (19, Ld 34 33)], false⟩ ::
 ⟨13, Kc 28 [F 27, T 27], [(19, Ld 34 33)], false⟩ ::
 ⟨14, Kc 29 [F 28], [(19, Ld 34 33)], false⟩ ::
 ⟨15, Kc 30 [F 29, N 4096], [(19, Ld 34 33)], false⟩ ::
 ⟨16, Kc 31 [F 30, N 4096], [(19, Ld 34 33)], false⟩ ::
 ⟨17, Kc 32 [F 31, N 4096], [(19, Ld 34 33)], false⟩ ::
 ⟨20, Kc 35 [F 32, T 34], [], false⟩ ::
 ⟨21, I 36 (.mkmap) [], [(1, Ld 16 15), (4, Ld 19 18), (6, Ld 21 20), (9, Ld 24 23), (12, Ld 27 26), (19, Ld 34 33)], false⟩ ::
 ⟨22, I 37 (.build (.agg [.nilptr, .nilptr, .nilptr, .nilptr, .nilptr, .nilptr, .nilptr, .nilptr, .nilptr, .nilmap, Zi]) [(0, 1), (1, 1), (2, 1), (3, 1), (4, 1), (5, 1), (6, 1), (7, 1), (8, 1), (9, 1), (10, 1)]) [T 17, T 22, T 25, T 28, T 29, T 30, T 31, T 32, T 35, T 36, N 1000], [], false⟩ ::
 ⟨23, I 38 (.box 69 11) [T 37], [], false⟩ ::
 ⟨24, Mv 6 38, [], false⟩ ::
 []),
(⟨0, Fa 15 0 2, [], false⟩ ::
 ⟨1, Ld 16 15, [], false⟩ ::
 ⟨3, Fa 18 0 2, [], false⟩ ::
 ⟨4, Ld 19 18, [], false⟩ ::
 ⟨5, Fa 20 1 2, [], false⟩ ::
 ⟨6, Ld 21 20, [], false⟩ ::
 ⟨8, Fa 23 2 2, [], false⟩ ::
 ⟨9, Ld 24 23, [], false⟩ ::
 ⟨11, Fa 26 2 2, [], false⟩ ::
 ⟨12, Ld 27 26, [], false⟩ ::
 ⟨18, Fa 33 3 2, [], false⟩ ::
 ⟨19, Ld 34 33, [], false⟩ ::
 ⟨2, Kc 17 [F 24, T 16], [(4, Ld 19 18), (6, Ld 21 20), (9, Ld 24 23), (12, Ld 27 26), (19, Ld 34 33)], false⟩ ::
 ⟨7, Kc 22 [F 25, T 19, T 21], [(9, Ld 24 23), (12, Ld 27 26), (19, Ld 34 33)], false⟩ ::
 ⟨10, Kc 25 [F 26, T 24], [(12, Ld 27 26), (19, Ld 34 33)], false⟩ ::
 ⟨13, Kc 28 [F 27, T 27], [(19, Ld 34 33)], false⟩ ::
 ⟨14, Kc 29 [F 28], [(19, Ld 34 33)], false⟩ ::
 ⟨15, Kc 30 [F 29, N 4096], [(19, Ld 34 33)], false⟩ ::
 ⟨16, Kc 31 [F 30, N 4096], [(19, Ld 34 33)], false⟩ ::
 ⟨17, Kc 32 [F 31, N 4096], [(19, Ld 34 33)], false⟩ ::
 ⟨21, I 36 (.mkmap) [], [(1, Ld 16 15), (4, Ld 19 18), (6, Ld 21 20), (9, Ld 24 23), (12, Ld 27 26), (19, Ld 34 33)], false⟩ ::
 ⟨20, Kc 35 [F 32, T 34], [], false⟩ ::
 ⟨22, I 37 (.build (.agg [.nilptr, .nilptr, .nilptr, .nilptr, .nilptr, .nilptr, .nilptr, .nilptr, .nilptr, .nilmap, Zi]) [(0, 1), (1, 1), (2, 1), (3, 1), (4, 1), (5, 1), (6, 1), (7, 1), (8, 1), (9, 1), (10, 1)]) [T 17, T 22, T 25, T 28, T 29, T 30, T 31, T 32, T 35, T 36, N 1000], [], false⟩ ::
 ⟨23, I 38 (.box 69 11) [T 37], [], false⟩ ::
 ⟨24, Mv 6 38, [], false⟩ ::
 []),
(⟨0, Fa 15 0 2, [], false⟩ ::
 ⟨1, Ld 16 15, [], false⟩ ::
 ⟨3, Fa 18 0 2, [], false⟩ ::
 ⟨4, Ld 19 18, [], false⟩ ::
 ⟨5, Fa 20 1 2, [], false⟩ ::
 ⟨6, Ld 21 20, [], false⟩ ::
 ⟨8, Fa 23 2 2, [], false⟩ ::
 ⟨9, Ld 24 23, [], false⟩ ::
 ⟨11, Fa 26 2 2, [], false⟩ ::
 ⟨12, Ld 27 26, [], false⟩ ::
 ⟨18, Fa 33 3 2, [], false⟩ ::
 ⟨19, Ld 34 33, [], false⟩ ::
 ⟨2, Kc 17 [F 24, T 16], [(4, Ld 19 18), (6, Ld 21 20), (9, Ld 24 23), (12, Ld 27 26), (19, Ld 34 33)], false⟩ ::
 ⟨7, Kc 22 [F 25, T 19, T 21], [(9, Ld 24 23), (12, Ld 27 26), (19, Ld 34 33)], false⟩ ::
 ⟨10, Kc 25 [F 26, T 24], [(12, Ld 27 26), (19, Ld 34 33)], false⟩ ::
 ⟨13, Kc 28 [F 27, T 27], [(19, Ld 34 33)], false⟩ ::
 ⟨14, Kc 29 [F 28], [(19, Ld 34 33)], false⟩ ::
 ⟨15, Kc 30 [F 29, N 4096], [(19, Ld 34 33)], false⟩ ::
 ⟨16, Kc 31 [F 30, N 4096], [(19, Ld 34 33)], false⟩ ::
 ⟨21, I 36 (.mkmap) [], [(1, Ld 16 15), (4, Ld 19 18), (6, Ld 21 20), (9, Ld 24 23), (12, Ld 27 26), (19, Ld 34 33)], false⟩ ::
 ⟨17, Kc 32 [F 31, N 4096], [(19, Ld 34 33)], false⟩ ::
 ⟨20, Kc 35 [F 32, T 34], [], false⟩ ::
 ⟨22, I 37 (.build (.agg [.nilptr, .nilptr, .nilptr, .nilptr, .nilptr, .nilptr, .nilptr, .nilptr, .nilptr, .nilmap, Zi]) [(0, 1), (1, 1), (2, 1), (3, 1), (4, 1), (5, 1), (6, 1), (7, 1), (8, 1), (9, 1), (10, 1)]) [T 17, T 22, T 25, T 28, T 29, T 30, T 31, T 32, T 35, T 36, N 1000], [], false⟩ ::
 ⟨23, I 38 (.box 69 11) [T 37], [], false⟩ ::
 ⟨24, Mv 6 38, [], false⟩ ::
 []),
(⟨0, Fa 15 0 2, [], false⟩ ::
 ⟨1, Ld 16 15, [], false⟩ ::
 ⟨3, Fa 18 0 2, [], false⟩ ::
 ⟨4, Ld 19 18, [], false⟩ ::
 ⟨5, Fa 20 1 2, [], false⟩ ::
 ⟨6, Ld 21 20, [], false⟩ ::
 ⟨8, Fa 23 2 2, [], false⟩ ::
 ⟨9, Ld 24 23, [], false⟩ ::
 ⟨11, Fa 26 2 2, [], false⟩ ::
 ⟨12, Ld 27 26, [], false⟩ ::
 ⟨18, Fa 33 3 2, [], false⟩ ::
 ⟨19, Ld 34 33, [], false⟩ ::
 ⟨2, Kc 17 [F 24, T 16], [(4, Ld 19 18), (6, Ld 21 20), (9, Ld 24 23), (12, Ld 27 26), (19, Ld 34 33)], false⟩ ::
 ⟨7, Kc 22 [F 25, T 19, T 21], [(9, Ld 24 23), (12, Ld 27 26), (19, Ld 34 33)], false⟩ ::
 ⟨10, Kc 25 [F 26, T 24], [(12, Ld 27 26), (19, Ld 34 33)], false⟩ ::
 ⟨13, Kc 28 [F 27, T 27], [(19, Ld 34 33)], false⟩ ::
 ⟨14, Kc 29 [F 28], [(19, Ld 34 33)], false⟩ ::
 ⟨15, Kc 30 [F 29, N 4096], [(19, Ld 34 33)], false⟩ ::
 ⟨21, I 36 (.mkmap) [], [(1, Ld 16 15), (4, Ld 19 18), (6, Ld 21 20), (9, Ld 24 23), (12, Ld 27 26), (19, Ld 34 33)], false⟩ ::
 ⟨16, Kc 31 [F 30, N 4096], [(19, Ld 34 33)], false⟩ ::
 ⟨17, Kc 32 [F 31, N 4096], [(19, Ld 34 33)], false⟩ ::
 ⟨20, Kc 35 [F 32, T 34], [], false⟩ ::
 ⟨22, I 37 (.build (.agg [.nilptr, .nilptr, .nilptr, .nilptr, .nilptr, .nilptr, .nilptr, .nilptr, .nilptr, .nilmap, Zi]) [(0, 1), (1, 1), (2, 1), (3, 1), (4, 1), (5, 1), (6, 1), (7, 1), (8, 1), (9, 1), (10, 1)]) [T 17, T 22, T 25, T 28, T 29, T 30, T 31, T 32, T 35, T 36, N 1000], [], false⟩ ::
 ⟨23, I 38 (.box 69 11) [T 37], [], false⟩ ::
 ⟨24, Mv 6 38, [], false⟩ ::
 []),
(⟨0, Fa 15 0 2, [], false⟩ ::
 ⟨1, Ld 16 15, [], false⟩ ::
 ⟨3, Fa 18 0 2, [], false⟩ ::
 ⟨4, Ld 19 18, [], false⟩ ::
 ⟨5, Fa 20 1 2, [], false⟩ ::
 ⟨6, Ld 21 20, [], false⟩ ::
 ⟨8, Fa 23 2 2, [], false⟩ ::
 ⟨9, Ld 24 23, [], false⟩ ::
 ⟨11, Fa 26 2 2, [], false⟩ ::
 ⟨12, Ld 27 26, [], false⟩ ::
 ⟨18, Fa 33 3 2, [], false⟩ ::
 ⟨19, Ld 34 33, [], false⟩ ::
 ⟨2, Kc 17 [F 24, T 16], [(4, Ld 19 18), (6, Ld 21 20), (9, Ld 24 23), (12, Ld 27 26), (19, Ld 34 33)], false⟩ ::
 ⟨7, Kc 22 [F 25, T 19, T 21], [(9, Ld 24 23), (12, Ld 27 26), (19, Ld 34 33)], false⟩ ::
 ⟨10, Kc 25 [F 26, T 24], [(12, Ld 27 26), (19, Ld 34 33)], false⟩ ::
 ⟨13, Kc 28 [F 27, T 27], [(19, Ld 34 33)], false⟩ ::
 ⟨14, Kc 29 [F 28], [(19, Ld 34 33)], false⟩ ::
 ⟨21, I 36 (.mkmap) [], [(1, Ld 16 15), (4, Ld 19 18), (6, Ld 21 20), (9, Ld 24 23), (12, Ld 27 26), (19, Ld 34 33)], false⟩ ::
 ⟨15, Kc 30 [F 29, N 4096], [(19, Ld 34 33)], false⟩ ::
 ⟨16, Kc 31 [F 30, N 4096], [(19, Ld 34 33)], false⟩ ::
 ⟨17, Kc 32 [F 31, N 4096], [(19, Ld 34 33)], false⟩ ::
 ⟨20, Kc 35 [F 32, T 34], [], false⟩ ::
 ⟨22, I 37 (.build (.agg [.nilptr, .nilptr, .nilptr, .nilptr, .nilptr, .nilptr, .nilptr, .nilptr, .nilptr, .nilmap, Zi]) [(0, 1), (1, 1), (2, 1), (3, 1), (4, 1), (5, 1), (6, 1), (7, 1), (8, 1), (9, 1), (10, 1)]) [T 17, T 22, T 25, T 28, T 29, T 30, T 31, T 32, T 35, T 36, N 1000], [], false⟩ ::
 ⟨23, I 38 (.box 69 11) [T 37], [], false⟩ ::
 ⟨24, Mv 6 38, [], false⟩ ::
 []),
(⟨0, Fa 15 0 2, [], false⟩ ::
 ⟨1, Ld 16 15, [], false⟩ ::
 ⟨3, Fa 18 0 2, [], false⟩ ::
 ⟨4, Ld 19 18, [], false⟩ ::
 ⟨5, Fa 20 1 2, [], false⟩ ::
 ⟨6, Ld 21 20, [], false⟩ ::
 ⟨8, Fa 23 2 2, [], false⟩ ::
 ⟨9, Ld 24 23, [], false⟩ ::
 ⟨11, Fa 26 2 2, [], false⟩ ::
 ⟨12, Ld 27 26, [], false⟩ ::
 ⟨18, Fa 33 3 2, [], false⟩ ::
 ⟨19, Ld 34 33, [], false⟩ ::
 ⟨2, Kc 17 [F 24, T 16], [(4, Ld 19 18), (6, Ld 21 20), (9, Ld 24 23), (12, Ld 27 26), (19, Ld 34 33)], false⟩ ::
 ⟨7, Kc 22 [F 25, T 19, T 21], [(9, Ld 24 23), (12, Ld 27 26), (19, Ld 34 33)], false⟩ ::
 ⟨10, Kc 25 [F 26, T 24], [(12, Ld 27 26), (19, Ld 34 33)], false⟩ ::
 ⟨13, Kc 28 [F 27, T 27], [(19, Ld 34 33)], false⟩ ::
 ⟨21, I 36 (.mkmap) [], [(1, Ld 16 15), (4, Ld 19 18), (6, Ld 21 20), (9, Ld 24 23), (12, Ld 27 26), (19, Ld 34 33)], false⟩ ::
 ⟨14, Kc 29 [F 28], [(19, Ld 34 33)], false⟩ ::
 ⟨15, Kc 30 [F 29, N 4096], [(19, Ld 34 33)], false⟩ ::
 ⟨16, Kc 31 [F 30, N 4096], [(19, Ld 34 33)], false⟩ ::
 ⟨17, Kc 32 [F 31, N 4096], [(19, Ld 34 33)], false⟩ ::
 ⟨20, Kc 35 [F 32, T 34], [], false⟩ ::
 ⟨22, I 37 (.build (.agg [.nilptr, .nilptr, .nilptr, .nilptr, .nilptr, .nilptr, .nilptr, .nilptr, .nilptr, .nilmap, Zi]) [(0, 1), (1, 1), (2, 1), (3, 1), (4, 1), (5, 1), (6, 1), (7, 1), (8, 1), (9, 1), (10, 1)]) [T 17, T 22, T 25, T 28, T 29, T 30, T 31, T 32, T 35, T 36, N 1000], [], false⟩ ::
 ⟨23, I 38 (.box 69 11) [T 37], [], false⟩ ::
 ⟨24, Mv 6 38, [], false⟩ ::
 []),
(⟨0, Fa 15 0 2, [], false⟩ ::
 ⟨1, Ld 16 15, [], false⟩ ::
 ⟨3, Fa 18 0 2, [], false⟩ ::
 ⟨4, Ld 19 18, [], false⟩ ::
 ⟨5, Fa 20 1 2, [], false⟩ ::
 ⟨6, Ld 21 20, [], false⟩ ::
 ⟨8, Fa 23 2 2, [], false⟩ ::
 ⟨9, Ld 24 23, [], false⟩ ::
 ⟨11, Fa 26 2 2, [], false⟩ ::
 ⟨12, Ld 27 26, [], false⟩ ::
 ⟨18, Fa 33 3 2, [], false⟩ ::
 ⟨19, Ld 34 33, [], false⟩ ::
 ⟨2, Kc 17 [F 24, T 16], [(4, Ld 19 18), (6, Ld 21 20), (9, Ld 24 23), (12, Ld 27 26), (19, Ld 34 33)], false⟩ ::
 ⟨7, Kc 22 [F 25, T 19, T 21], [(9, Ld 24 23), (12, Ld 27 26), (19, Ld 34 33)], false⟩ ::
 ⟨10, Kc 25 [F 26, T 24], [(12, Ld 27 26), (19, Ld 34 33)], false⟩ ::
 ⟨21, I 36 (.mkmap) [], [(1, Ld 16 15), (4, Ld 19 18), (6, Ld 21 20), (9, Ld 24 23), (12, Ld 27 26), (19, Ld 34 33)], false⟩ ::
 ⟨13, Kc 28 [F 27, T 27], [(19, Ld 34 33)], false⟩ ::
 ⟨14, Kc 29 [F 28], [(19, Ld 34 33)], false⟩ ::
 ⟨15, Kc 30 [F 29, N 4096], [(19, Ld 34 33)], false⟩ ::
 ⟨16, Kc 31 [F 30, N 4096], [(19, Ld 34 33)], false⟩ ::
 ⟨17, Kc 32 [F 31, N 4096], [(19, Ld 34 33)], false⟩ ::
 ⟨20, Kc 35 [F 32, T 34], [], false⟩ ::
 ⟨22, I 37 (.build (.agg [.nilptr, .nilptr, .nilptr, .nilptr, .nilptr, .nilptr, .nilptr, .nilptr, .nilptr, .nilmap, Zi]) [(0, 1), (1, 1), (2, 1), (3, 1), (4, 1), (5, 1), (6, 1), (7, 1), (8, 1), (9, 1), (10, 1)]) [T 17, T 22, T 25, T 28, T 29, T 30, T 31, T 32, T 35, T 36, N 1000], [], false⟩ ::
 ⟨23, I 38 (.box 69 11) [T 37], [], false⟩ ::
 ⟨24, Mv 6 38, [], false⟩ ::
 []),
(⟨0, Fa 15 0 2, [], false⟩ ::
 ⟨1, Ld 16 15, [], false⟩ ::
 ⟨3, Fa 18 0 2, [], false⟩ ::
 ⟨4, Ld 19 18, [], false⟩ ::
 ⟨5, Fa 20 1 2, [], false⟩ ::
 ⟨6, Ld 21 20, [], false⟩ ::
 ⟨8, Fa 23 2 2, [], false⟩ ::
 ⟨9, Ld 24 23, [], false⟩ ::
 ⟨11, Fa 26 2 2, [], false⟩ ::
 ⟨12, Ld 27 26, [], false⟩ ::
 ⟨18, Fa 33 3 2, [], false⟩ ::
 ⟨19, Ld 34 33, [], false⟩ ::
 ⟨2, Kc 17 [F 24, T 16], [(4, Ld 19 18), (6, Ld 21 20), (9, Ld 24 23), (12, Ld 27 26), (19, Ld 34 33)], false⟩ ::
 ⟨7, Kc 22 [F 25, T 19, T 21], [(9, Ld 24 23), (12, Ld 27 26), (19, Ld 34 33)], false⟩ ::
 ⟨21, I 36 (.mkmap) [], [(1, Ld 16 15), (4, Ld 19 18), (6, Ld 21 20), (9, Ld 24 23), (12, Ld 27 26), (19, Ld 34 33)], false⟩ ::
 ⟨10, Kc 25 [F 26, T 24], [(12, Ld 27 26), (19, Ld 34 33)], false⟩ ::
 ⟨13, Kc 28 [F 27, T 27], [(19, Ld 34 33)], false⟩ ::
 ⟨14, Kc 29 [F 28], [(19, Ld 34 33)], false⟩ ::
 ⟨15, Kc 30 [F 29, N 4096], [(19, Ld 34 33)], false⟩ ::
 ⟨16, Kc 31 [F 30, N 4096], [(19, Ld 34 33)], false⟩ ::
 ⟨17, Kc 32 [F 31, N 4096], [(19, Ld 34 33)], false⟩ ::
 ⟨20, Kc 35 [F 32, T 34], [], false⟩ ::
 ⟨22, I 37 (.build (.agg [.nilptr, .nilptr, .nilptr, .nilptr, .nilptr, .nilptr, .nilptr, .nilptr, .nilptr, .nilmap, Zi]) [(0, 1), (1, 1), (2, 1), (3, 1), (4, 1), (5, 1), (6, 1), (7, 1), (8, 1), (9, 1), (10, 1)]) [T 17, T 22, T 25, T 28, T 29, T 30, T 31, T 32, T 35, T 36, N 1000], [], false⟩ ::
 ⟨23, I 38 (.box 69 11) [T 37], [], false⟩ ::
 ⟨24, Mv 6 38, [], false⟩ ::
 []),
(⟨0, Fa 15 0 2, [], false⟩ ::
 ⟨1, Ld 16 15, [], false⟩ ::
 ⟨3, Fa 18 0 2, [], false⟩ ::
 ⟨4, Ld 19 18, [], false⟩ ::
 ⟨5, Fa 20 1 2, [], false⟩ ::
 ⟨6, Ld 21 20, [], false⟩ ::
 ⟨8, Fa 23 2 2, [], false⟩ ::
 ⟨9, Ld 24 23, [], false⟩ ::
 ⟨11, Fa 26 2 2, [], false⟩ ::
 ⟨12, Ld 27 26, [], false⟩ ::
 ⟨18, Fa 33 3 2, [], false⟩ ::
 ⟨19, Ld 34 33, [], false⟩ ::
 ⟨2, Kc 17 [F 24, T 16], [(4, Ld 19 18), (6, Ld 21 20), (9, Ld 24 23), (12, Ld 27 26), (19, Ld 34 33)], false⟩ ::
 ⟨21, I 36 (.mkmap) [], [(1, Ld 16 15), (4, Ld 19 18), (6, Ld 21 20), (9, Ld 24 23), (12, Ld 27 26), (19, Ld 34 33)], false⟩ ::
 ⟨7, Kc 22 [F 25, T 19, T 21], [(9, Ld 24 23), (12, Ld 27 26), (19, Ld 34 33)], false⟩ ::
 ⟨10, Kc 25 [F 26, T 24], [(12, Ld 27 26), (19, Ld 34 33)], false⟩ ::
 ⟨13, Kc 28 [F 27, T 27], [(19, Ld 34 33)], false⟩ ::
 ⟨14, Kc 29 [F 28], [(19, Ld 34 33)], false⟩ ::
 ⟨15, Kc 30 [F 29, N 4096], [(19, Ld 34 33)], false⟩ ::
 ⟨16, Kc 31 [F 30, N 4096], [(19, Ld 34 33)], false⟩ ::
 ⟨17, Kc 32 [F 31, N 4096], [(19, Ld 34 33)], false⟩ ::
 ⟨20, Kc 35 [F 32, T 34], [], false⟩ ::
 ⟨22, I 37 (.build (.agg [.nilptr, .nilptr, .nilptr, .nilptr, .nilptr, .nilptr, .nilptr, .nilptr, .nilptr, .nilmap, Zi]) [(0, 1), (1, 1), (2, 1), (3, 1), (4, 1), (5, 1), (6, 1), (7, 1), (8, 1), (9, 1), (10, 1)]) [T 17, T 22, T 25, T 28, T 29, T 30, T 31, T 32, T 35, T 36, N 1000], [], false⟩ ::
 ⟨23, I 38 (.box 69 11) [T 37], [], false⟩ ::
 ⟨24, Mv 6 38, [], false⟩ ::
 []),
(⟨0, Fa 15 0 2, [], false⟩ ::
 ⟨1, Ld 16 15, [], false⟩ ::
 ⟨3, Fa 18 0 2, [], false⟩ ::
 ⟨4, Ld 19 18, [], false⟩ ::
 ⟨5, Fa 20 1 2, [], false⟩ ::
 ⟨6, Ld 21 20, [], false⟩ ::
 ⟨8, Fa 23 2 2, [], false⟩ ::
 ⟨9, Ld 24 23, [], false⟩ ::
 ⟨11, Fa 26 2 2, [], false⟩ ::
 ⟨12, Ld 27 26, [], false⟩ ::
 ⟨18, Fa 33 3 2, [], false⟩ ::
 ⟨19, Ld 34 33, [], false⟩ ::
 ⟨21, I 36 (.mkmap) [], [(1, Ld 16 15), (4, Ld 19 18), (6, Ld 21 20), (9, Ld 24 23), (12, Ld 27 26), (19, Ld 34 33)], false⟩ ::
 ⟨2, Kc 17 [F 24, T 16], [(4, Ld 19 18), (6, Ld 21 20), (9, Ld 24 23), (12, Ld 27 26), (19, Ld 34 33)], false⟩ ::
 ⟨7, Kc 22 [F 25, T 19, T 21], [(9, Ld 24 23), (12, Ld 27 26), (19, Ld 34 33)], false⟩ ::
 ⟨10, Kc 25 [F 26, T 24], [(12, Ld 27 26), (19, Ld 34 33)], false⟩ ::
 ⟨13, Kc 28 [F 27, T 27], [(19, Ld 34 33)], false⟩ ::
 ⟨14, Kc 29 [F 28], [(19, Ld 34 33)], false⟩ ::
 ⟨15, Kc 30 [F 29, N 4096], [(19, Ld 34 33)], false⟩ ::
 ⟨16, Kc 31 [F 30, N 4096], [(19, Ld 34 33)], false⟩ ::
 ⟨17, Kc 32 [F 31, N 4096], [(19, Ld 34 33)], false⟩ ::
 ⟨20, Kc 35 [F 32, T 34], [], false⟩ ::
 ⟨22, I 37 (.build (.agg [.nilptr, .nilptr, .nilptr, .nilptr, .nilptr, .nilptr, .nilptr, .nilptr, .nilptr, .nilmap, Zi]) [(0, 1), (1, 1), (2, 1), (3, 1), (4, 1), (5, 1), (6, 1), (7, 1), (8, 1), (9, 1), (10, 1)]) [T 17, T 22, T 25, T 28, T 29, T 30, T 31, T 32, T 35, T 36, N 1000], [], false⟩ ::
 ⟨23, I 38 (.box 69 11) [T 37], [], false⟩ ::
 ⟨24, Mv 6 38, [], false⟩ ::
 [])])
 (.seq (.seq (.region [Mv 39 1, I 40 .lens [T 39], Mn 41 0])
 (.block 0 (.loop c_kern_New_L0)))
 (.seq (.seq (.region [Mv 53 6, Kc 54 [F 34, T 53], Mv 52 54, Xt 55 0 52, Xt 56 1 52, Mv 9 55, Mv 10 56])
 (.seq (.region [Mv 57 10, Bi 58 .neq (T 57) (N 0)])
 (.cond (T 58)
 (.seq (.region [Mv 59 10, I 4 .mv [.lit .nilptr], Mv 5 59])
 (.ret))
 (.skip))))
 (.seq (.region [Mv 60 6, Mv 4 60, Mn 5 0])
 (.ret))))))⟩
abbrev n_kern_Kernel_Do : Nat := 8
def c_kern_Kernel_Do : AFn := ⟨81, [.cell 4 (.loadn 2)], .seq (.region [I 3 (.box 33 14) [T 1], I 4 (.alloc 30 2 (.vals [Zi, Zi])) []])
 (.seq (.seq (.region [Mv 6 0, Kc 7 [F 35, T 6], I 8 (.un .not) [T 7]])
 (.cond (T 8)
 (.seq (.region [Kc 9 [F 36, N 1], J (.store 2) [T 4, T 9]])
 (.ret))
 (.skip)))
 (.seq (.seq (.region [Fa 10 0 3, Ld 11 10])
 (.block 0 (.seq (.seq (.region [Bi 13 .eql (T 11) (N 15), Mv 12 13])
 (.cond (T 12)
 (.skip)
 (.seq (.region [Bi 14 .eql (T 11) (N 16), Mv 12 14])
 (.cond (T 12)
 (.skip)
 (.seq (.region [Bi 15 .eql (T 11) (N 17), Mv 12 15])
 (.cond (T 12)
 (.skip)
 (.region [Bi 16 .eql (T 11) (N 18), Mv 12 16])))))))
 (.cond (T 12)
 (.seq (.region [Mv 17 0, I 18 (.loadn 14) [T 3], Kc 19 [F 37, T 17, T 18], J (.store 2) [T 4, T 19]])
 (.ret))
 (.skip)))))
 (.seq (.seq (.region [Fa 20 0 3, Ld 21 20, Bi 22 .lss (T 21) (N 1), Mv 23 22, IG 24 (.fieldAddr 0) [T 3] 23 false, IG 25 .load1 [T 24] 23 false, IG 26 (.bin .gtr) [T 25, N 11] 23 false, Mw 27 26 23 false, IG 28 (.fieldAddr 0) [T 3] 27 true, IG 29 .load1 [T 28] 27 true, IG 30 (.bin .neq) [T 29, N 20] 27 true, IG 31 .pick [T 27, T 30, Tf] 23 false, I 32 .pick [T 23, Tt, T 31]])
 (.cond (T 32)
 (.seq (.region [Kc 33 [F 36, N 2], J (.store 2) [T 4, T 33]])
 (.ret))
 (.skip)))
 (.seq (.draw [[⟨0, Mv 34 0, [], false⟩, ⟨1, Nc 35 34, [], false⟩, ⟨2, Fa 36 9 35, [], false⟩, ⟨3, Ld 37 36, [], false⟩, ⟨4, Fa 38 1 3, [], false⟩, ⟨5, Ld 39 38, [], false⟩, ⟨6, I 40 (.lookup (.scal .int) .nilptr false) [T 37, T 39], [], false⟩, ⟨7, Mv 5 40, [], false⟩]])
 (.seq (.seq (.region [Mv 41 5, I 42 (.eqv false .ptr) [T 41, .lit .nilptr]])
 (.cond (T 42)
 (.seq (.region [Kc 43 [F 36, N 7], J (.store 2) [T 4, T 43]])
 (.ret))
 (.skip)))
 (.seq (.seq (.region [Fa 44 0 3, Ld 45 44])
 (.block 1 (.seq (.region [Bi 47 .eql (T 45) (N 1), Mv 46 47])
 (.cond (T 46)
 (.seq (.region [Mv 48 0, Mv 49 5, I 50 (.loadn 14) [T 3], Kc 51 [F 38, T 48, T 49, T 50], J (.store 2) [T 4, T 51]])
 (.ret))
 (.seq (.seq (.region [Bi 53 .eql (T 45) (N 8), Mv 52 53])
 (.cond (T 52)
 (.skip)
 (.region [Bi 54 .eql (T 45) (N 9), Mv 52 54])))
 (.cond (T 52)
 (.seq (.region [Mv 55 0, Mv 56 5, I 57 (.loadn 14) [T 3], Kc 58 [F 39, T 55, T 56, T 57], J (.store 2) [T 4, T 58]])
 (.ret))
 (.seq (.region [Bi 60 .eql (T 45) (N 10), Mv 59 60])
 (.cond (T 59)
 (.seq (.region [Mv 61 0, Mv 62 5, Kc 63 [F 40, T 61, T 62], J (.store 2) [T 4, T 63]])
 (.ret))
 (.seq (.region [Bi 65 .eql (T 45) (N 11), Mv 64 65])
 (.cond (T 64)
 (.seq (.region [Mv 66 0, Mv 67 5, Kc 68 [F 41, T 66, T 67]])
 (.seq (.region [I 69 (.build (.agg [Zi, Zi]) []) [], J (.store 2) [T 4, T 69]])
 (.ret)))
 (.seq (.region [Bi 71 .eql (T 45) (N 20), Mv 70 71])
 (.cond (T 70)
 (.seq (.region [Mv 72 0, Mv 73 5, I 74 (.loadn 14) [T 3], Kc 75 [F 42, T 72, T 73, T 74], J (.store 2) [T 4, T 75]])
 (.ret))
 (.skip)))))))))))))
 (.seq (.region [Mv 76 0, Mv 77 5, I 78 (.loadn 14) [T 3], Kc 79 [F 43, T 76, T 77, T 78], Kc 80 [F 36, T 79], J (.store 2) [T 4, T 80]])
 (.ret))))))))⟩
abbrev n_kern_Kernel_Resident : Nat := 9
def c_kern_Kernel_Resident_L0 : ACode :=
 .seq (.region [Bi 16 .lss (T 15) (T 14)])
 (.seq (.cond (T 16)
 (.skip)
 (.exit 0))
 (.seq (.block 1 (.seq (.region [Mv 17 15, Mv 4 17])
 (.seq (.region [Mv 19 0, Nc 20 19, Fa 21 1 20, Ld 22 21, Mv 23 4, Kc 24 [F 45, T 22, T 23], Mv 18 24, Xt 25 0 18, Xt 26 1 18, I 5 (.alloc 80 5 (.vals [Zi, Zi, Zi, Zi, Zi])) [], J (.store 5) [T 5, T 25], Mv 6 26])
 (.seq (.region [Fa 27 0 5, Ld 28 27, Bi 29 .eql (T 28) (N 2), Mv 30 29, IG 31 (.fieldAddr 0) [T 5] 30 false, IG 32 .load1 [T 31] 30 false, IG 33 (.bin .eql) [T 32, N 3] 30 false, I 34 .pick [T 30, Tt, T 33]])
 (.cond (T 34)
 (.region [Mv 35 3, Mv 36 4, I 37 (.bslice 3 1 1 (.vals [Zi]) [0]) [T 36], I 38 (.append 3 1 8 (.vals [Zi])) [T 35, T 37], Mv 3 38])
 (.skip))))))
 (.region [Bi 39 .add (T 15) (N 1), Mv 15 39])))
def c_kern_Kernel_Resident : AFn := ⟨41, [.tmp 2], .seq (.region [I 2 .mv [.lit .nilsl]])
 (.seq (.seq (.region [Mv 7 0, Kc 8 [F 35, T 7], I 9 (.un .not) [T 8]])
 (.cond (T 9)
 (.seq (.region [I 2 .mv [.lit .nilsl]])
 (.ret))
 (.skip)))
 (.seq (.region [I 3 .mv [.lit .nilsl]])
 (.seq (.seq (.region [Mv 10 0, Nc 11 10, Fa 12 0 11, Ld 13 12, Kc 14 [F 44, T 13], Mn 15 0])
 (.block 0 (.loop c_kern_Kernel_Resident_L0)))
 (.seq (.region [Mv 40 3, Mv 2 40])
 (.ret)))))⟩
abbrev n_law18_lives : Nat := 10
def c_law18_lives_L0 : ACode :=
 .seq (.seq (.region [Mv 23 3, Bi 24 .lss (T 23) (N 4)])
 (.cond (T 24)
 (.skip)
 (.exit 0)))
 (.seq (.block 1 (.seq (.region [Mv 27 1, Mv 28 3, Mv 29 3, Bi 30 .add (N 10) (T 29), I 31 (.build (.agg [Zi, Zi, Zi, Zi, Zi, (.bool false), Zi, Zi, (.bool false), Zi, Zi, Zi, Zi, Zi]) [(0, 1), (1, 1), (2, 1), (10, 1), (11, 1)]) [N 9, N 1, T 28, N 1, T 30], Kc 32 [F 8, T 27, T 31], I 33 (.field 0 1 false) [T 32], Bi 34 .neq (T 33) (N 0)])
 (.cond (T 34)
 (.seq (.region [I 0 .mv [Tf]])
 (.ret))
 (.skip))))
 (.region [Mv 25 3, Bi 26 .add (T 25) (N 1), Mv 3 26]))
def c_law18_lives_L1 : ACode :=
 .seq (.seq (.region [Mv 63 6, Bi 64 .lss (T 63) (N 5)])
 (.cond (T 64)
 (.skip)
 (.exit 2)))
 (.seq (.block 3 (.seq (.region [Mv 68 1, Mv 69 6, Kc 70 [F 19, T 68, N 1, T 69, N 1], Mv 67 70, Xt 71 0 67, Xt 72 1 67, Mv 7 71, Mv 8 72])
 (.seq (.region [Mv 73 7, Mv 74 6, Bi 75 .add (N 10) (T 74), Bi 76 .neq (T 73) (T 75), Mv 77 76, Mw 78 8 77 false, IG 79 (.bin .neq) [T 78, N 0] 77 false, I 80 .pick [T 77, Tt, T 79]])
 (.cond (T 80)
 (.seq (.region [I 0 .mv [Tf]])
 (.ret))
 (.skip)))))
 (.region [Mv 65 6, Bi 66 .add (T 65) (N 1), Mv 6 66]))
def c_law18_lives : AFn := ⟨81, [.tmp 0], .seq (.region [I 0 .mv [Tf]])
 (.seq (.region [I 10 (.build (.agg [Zi, Zi, Zi, Zi]) [(0, 1), (2, 1)]) [N 7, N 9], Kc 11 [F 7, T 10, .lit .nilsl], Mv 9 11, Xt 12 0 9, Xt 13 1 9, Mv 1 12, Mv 2 13])
 (.seq (.seq (.region [Mv 14 2, Bi 15 .neq (T 14) (N 0), Mv 16 15, Mw 17 1 16 false, IG 18 (.build (.agg [Zi, Zi, Zi, Zi, Zi, (.bool false), Zi, Zi, (.bool false), Zi, Zi, Zi, Zi, Zi]) [(0, 1), (1, 1), (2, 1), (3, 1), (4, 1)]) [N 1, N 1, N (-1), N 9, N 3] 16 false, IG 19 .callv [F 8, T 17, T 18] 16 false, IG 20 (.field 0 1 false) [T 19] 16 false, IG 21 (.bin .neq) [T 20, N 0] 16 false, I 22 .pick [T 16, Tt, T 21]])
 (.cond (T 22)
 (.seq (.region [I 0 .mv [Tf]])
 (.ret))
 (.skip)))
 (.seq (.seq (.region [Mn 3 0])
 (.block 0 (.loop c_law18_lives_L0)))
 (.seq (.region [I 35 (.build (.agg [Zi, Zi, Zi, Zi, Zi, (.bool false), Zi, Zi, (.bool false), Zi, Zi, Zi, Zi, Zi]) [(0, 1), (1, 1), (2, 1), (10, 1), (11, 1)]) [N 9, N 1, N 4, N 1, N 14], I 4 (.alloc 33 14 (.vals [Zi, Zi, Zi, Zi, Zi, (.bool false), Zi, Zi, (.bool false), Zi, Zi, Zi, Zi, Zi])) [], J (.store 14) [T 4, T 35]])
 (.seq (.region [Mv 36 1, Kc 37 [F 9, T 36], Mv 5 37])
 (.seq (.seq (.region (Mv 38 1 ::
 I 39 (.loadn 14) [T 4] ::
 Kc 40 [F 8, T 38, T 39] ::
 I 41 (.field 0 1 false) [T 40] ::
 Bi 42 .neq (T 41) (N 5) ::
 Mv 43 42 ::
 Mw 44 5 43 false ::
 IG 45 .lens [T 44] 43 false ::
 IG 46 (.bin .neq) [T 45, N 4] 43 false ::
 I 47 .pick [T 43, Tt, T 46] ::
 Mv 48 47 ::
 Mw 49 1 48 false ::
 Mw 50 5 48 false ::
 IG 51 (.indexs 1) [T 50, N 0] 48 false ::
 IG 52 .load1 [T 51] 48 false ::
 IG 53 .callv [F 46, T 49, T 52] 48 false ::
 IG 54 (.bin .neq) [T 53, N 0] 48 false ::
 I 55 .pick [T 48, Tt, T 54] ::
 Mv 56 55 ::
 Mw 57 1 56 false ::
 IG 58 (.loadn 14) [T 4] 56 false ::
 IG 59 .callv [F 8, T 57, T 58] 56 false ::
 IG 60 (.field 0 1 false) [T 59] 56 false ::
 IG 61 (.bin .neq) [T 60, N 0] 56 false ::
 I 62 .pick [T 56, Tt, T 61] ::
 []))
 (.cond (T 62)
 (.seq (.region [I 0 .mv [Tf]])
 (.ret))
 (.skip)))
 (.seq (.seq (.region [Mn 6 0])
 (.block 2 (.loop c_law18_lives_L1)))
 (.seq (.region [I 0 .mv [Tt]])
 (.ret)))))))))⟩
abbrev n_law19_lives : Nat := 15
def c_law19_lives : AFn := ⟨71, [.tmp 0], .seq (.region [I 0 .mv [Tf]])
 (.seq (.region [I 9 (.build (.agg [Zi, Zi, Zi, Zi]) [(0, 1), (2, 1)]) [N 20, N 4], Kc 10 [F 7, T 9, .lit .nilsl], Mv 8 10, Xt 11 0 8, Xt 12 1 8, Mv 1 11, Mv 2 12])
 (.seq (.region [Mv 13 1, Kc 14 [F 11, T 13, N 4], Mv 3 14])
 (.seq (.seq (.region [Mv 15 2, Bi 16 .neq (T 15) (N 0), Mv 17 16, Mw 18 3 17 false, IG 19 (.eqv false .ptr) [T 18, .lit .nilptr] 17 false, I 20 .pick [T 17, Tt, T 19], Mv 21 20, Mw 22 1 21 false, IG 23 (.build (.agg [Zi, Zi, Zi, Zi, Zi, (.bool false), Zi, Zi, (.bool false), Zi, Zi, Zi, Zi, Zi]) [(0, 1), (1, 1), (2, 1), (3, 1), (4, 1)]) [N 1, N 1, N (-1), N 1, N 3] 21 false, IG 24 .callv [F 8, T 22, T 23] 21 false, IG 25 (.field 0 1 false) [T 24] 21 false, IG 26 (.bin .neq) [T 25, N 0] 21 false, I 27 .pick [T 21, Tt, T 26], Mv 28 27, Mw 29 1 28 false, IG 30 (.build (.agg [Zi, Zi, Zi, Zi, Zi, (.bool false), Zi, Zi, (.bool false), Zi, Zi, Zi, Zi, Zi]) [(0, 1), (1, 1), (11, 1)]) [N 9, N 1, N 7] 28 false, IG 31 .callv [F 8, T 29, T 30] 28 false, IG 32 (.field 0 1 false) [T 31] 28 false, IG 33 (.bin .neq) [T 32, N 0] 28 false, I 34 .pick [T 28, Tt, T 33]])
 (.cond (T 34)
 (.seq (.region [I 0 .mv [Tf]])
 (.ret))
 (.skip)))
 (.seq (.region [Mv 36 3, Kc 37 [F 12, T 36, N 1, N 0], Mv 35 37, Xt 38 0 35, Xt 39 1 35, Mv 4 38, Mv 5 39])
 (.seq (.seq (.region [Mv 40 4, Bi 41 .neq (T 40) (N 1), Mv 42 41, Mw 43 5 42 false, IG 44 (.bin .neq) [T 43, N 0] 42 false, I 45 .pick [T 42, Tt, T 44], Mv 46 45, Mw 47 1 46 false, IG 48 (.build (.agg [Zi, Zi, Zi, Zi, Zi, (.bool false), Zi, Zi, (.bool false), Zi, Zi, Zi, Zi, Zi]) [(0, 1), (1, 1), (11, 1)]) [N 9, N 1, N 8] 46 false, IG 49 .callv [F 8, T 47, T 48] 46 false, IG 50 (.field 0 1 false) [T 49] 46 false, IG 51 (.bin .neq) [T 50, N 0] 46 false, I 52 .pick [T 46, Tt, T 51]])
 (.cond (T 52)
 (.seq (.region [I 0 .mv [Tf]])
 (.ret))
 (.skip)))
 (.seq (.region [Mv 54 3, Kc 55 [F 18, T 54, N 1, N 0], Mv 53 55, Xt 56 0 53, Xt 57 1 53, Mv 6 56, Mv 7 57])
 (.seq (.region [Mv 58 6, Bi 59 .eql (T 58) (N 7), Mv 60 59, Mw 61 7 60 true, IG 62 (.bin .eql) [T 61, N 0] 60 true, I 63 .pick [T 60, T 62, Tf], Mv 64 63, Mw 65 1 64 true, IG 66 (.build (.agg [Zi, Zi, Zi, Zi, Zi, (.bool false), Zi, Zi, (.bool false), Zi, Zi, Zi, Zi, Zi]) [(0, 1), (1, 1)]) [N 8, N 1] 64 true, IG 67 .callv [F 8, T 65, T 66] 64 true, IG 68 (.field 1 1 false) [T 67] 64 true, IG 69 (.bin .eql) [T 68, N 8] 64 true, I 70 .pick [T 64, T 69, Tf], Mv 0 70])
 (.ret))))))))⟩
abbrev n_kern_Kernel_Byte : Nat := 19
def c_kern_Kernel_Byte : AFn := ⟨106, [.tmp 8, .tmp 9], .seq (.region [Mn 8 0, Mn 9 0])
 (.seq (.block 0 (.seq (.region [Mv 17 0, Kc 18 [F 35, T 17], I 19 (.un .not) [T 18], Mv 16 19])
 (.cond (T 16)
 (.seq (.region [Mn 8 0, Mn 9 1])
 (.ret))
 (.seq (.region [Mv 21 0, Nc 22 21, Fa 23 9 22, Ld 24 23, Mv 25 1, I 26 (.lookup (.scal .int) .nilptr false) [T 24, T 25], I 27 (.eqv false .ptr) [T 26, .lit .nilptr], Mv 20 27])
 (.cond (T 20)
 (.seq (.region [Mn 8 0, Mn 9 7])
 (.ret))
 (.seq (.region [Mv 29 3, Bi 30 .lss (T 29) (N 0), Mv 31 30, Mw 32 3 31 false, IG 33 (.bin .geq) [T 32, N 4096] 31 false, I 34 .pick [T 31, Tt, T 33], Mv 28 34])
 (.cond (T 28)
 (.seq (.region [Mn 8 0, Mn 9 2])
 (.ret))
 (.skip))))))))
 (.seq (.region [Mv 35 0, Nc 36 35, Fa 37 9 36, Ld 38 37, Mv 39 1, I 40 (.lookup (.scal .int) .nilptr false) [T 38, T 39], Mv 10 40])
 (.seq (.region [Mv 42 10, Nc 43 42, Fa 44 1 43, Ld 45 44, Mv 46 2, Kc 47 [F 55, T 45, T 46], Mv 41 47, Xt 48 0 41, Xt 49 1 41, I 11 (.alloc 94 10 (.vals [Zi, Zi, Zi, Zi, (.bool false), Zi, Zi, Zi, Zi, (.bool false)])) [], J (.store 10) [T 11, T 48], Mv 12 49])
 (.seq (.seq (.region [Mv 50 12, I 51 (.un .not) [T 50]])
 (.cond (T 51)
 (.seq (.region [Mn 8 0, Mn 9 4])
 (.ret))
 (.skip)))
 (.seq (.seq (.draw [[⟨0, Mv 53 0, [], false⟩, ⟨1, Nc 54 53, [], false⟩, ⟨2, Fa 55 5 54, [], false⟩, ⟨3, Ld 56 55, [], false⟩, ⟨4, Mv 57 0, [], false⟩, ⟨5, Mv 58 10, [], false⟩, ⟨6, Mv 59 2, [], false⟩, ⟨7, Kc 60 [F 57, T 57, T 58, T 59], [(3, Ld 56 55)], false⟩, ⟨8, Kc 61 [F 56, T 56, T 60], [], false⟩, ⟨9, Mv 52 61, [], false⟩, ⟨10, Xt 62 0 52, [], false⟩, ⟨11, Xt 63 1 52, [], false⟩, ⟨12, I 13 (.alloc 103 3 (.vals [Zi, Zi, Zi])) [], [(3, Ld 56 55)], false⟩, ⟨13, J (.store 3) [T 13, T 62], [], false⟩, ⟨14, Mv 14 63, [], false⟩]])
 (.seq (.region [Mv 64 14, Mv 65 64, IG 66 (.fieldAddr 4) [T 11] 65 true, IG 67 .load1 [T 66] 65 true, IG 68 (.un .not) [T 67] 65 true, I 69 .pick [T 65, T 68, Tf]])
 (.cond (T 69)
 (.seq (.region [Mv 70 0, Fa 71 1 13, Ld 72 71, Fa 73 2 13, Ld 74 73, Kc 75 [F 58, T 70, T 72, T 74], Mv 76 3, I 77 (.indexs 1) [T 75, T 76], Ld 78 77, I 79 (.conv .i64) [T 78], Mv 8 79, Mn 9 0])
 (.ret))
 (.skip))))
 (.seq (.region [Fa 80 3 11, Ld 81 80, Mv 82 2, Bi 83 .add (T 81) (T 82), Fa 84 0 11, Ld 85 84, Bi 86 .sub (T 83) (T 85), Mv 15 86])
 (.seq (.block 1 (.seq (.region [Fa 88 2 11, Ld 89 88, Bi 90 .eql (T 89) (N 0), Mv 87 90])
 (.cond (T 87)
 (.seq (.region [Mn 8 0, Mn 9 0])
 (.ret))
 (.seq (.region [Mv 92 0, Fa 93 2 11, Ld 94 93, Mv 95 15, Kc 96 [F 59, T 92, T 94, T 95], Mv 91 96])
 (.cond (T 91)
 (.seq (.region [Mn 8 0, Mn 9 4])
 (.ret))
 (.skip))))))
 (.seq (.region [Mv 97 0, Fa 98 2 11, Ld 99 98, Mv 100 15, Kc 101 [F 60, T 97, T 99, T 100], Mv 102 3, I 103 (.indexs 1) [T 101, T 102], Ld 104 103, I 105 (.conv .i64) [T 104], Mv 8 105, Mn 9 0])
 (.ret)))))))))⟩
abbrev n_law20_lives : Nat := 22
def c_law20_lives_L0 : ACode :=
 .seq (.region [Bi 44 .lss (T 43) (T 42)])
 (.seq (.cond (T 44)
 (.skip)
 (.exit 0))
 (.seq (.block 1 (.seq (.region [I 45 (.indexs 1) [T 41, T 43], Ld 46 45, Mv 5 46])
 (.region [Mv 47 1, Mv 48 5, Kc 49 [F 65, T 47, T 48]])))
 (.region [Bi 50 .add (T 43) (N 1), Mv 43 50])))
def c_law20_lives : AFn := ⟨60, [.tmp 0], .seq (.region [I 0 .mv [Tf]])
 (.seq (.region [I 7 (.build (.agg [Zi, Zi, Zi, Zi]) [(0, 1), (2, 1)]) [N 20, N 4], Kc 8 [F 7, T 7, .lit .nilsl], Mv 6 8, Xt 9 0 6, Xt 10 1 6, Mv 1 9, Mv 2 10])
 (.seq (.region [Mv 11 1, Kc 12 [F 20, T 11], Mv 3 12])
 (.seq (.seq (.region (Mv 13 2 ::
 Bi 14 .neq (T 13) (N 0) ::
 Mv 15 14 ::
 Mw 16 3 15 false ::
 IG 17 (.eqv false .ptr) [T 16, .lit .nilptr] 15 false ::
 I 18 .pick [T 15, Tt, T 17] ::
 Mv 19 18 ::
 Mw 20 1 19 false ::
 IG 21 (.build (.agg [Zi, Zi, Zi, Zi, Zi, (.bool false), Zi, Zi, (.bool false), Zi, Zi, Zi, Zi, Zi]) [(0, 1), (1, 1), (2, 1), (3, 1), (4, 1)]) [N 1, N 1, N (-1), N 2, N 3] 19 false ::
 IG 22 .callv [F 8, T 20, T 21] 19 false ::
 IG 23 (.field 0 1 false) [T 22] 19 false ::
 IG 24 (.bin .neq) [T 23, N 0] 19 false ::
 I 25 .pick [T 19, Tt, T 24] ::
 Mv 26 25 ::
 Mw 27 1 26 false ::
 IG 28 (.build (.agg [Zi, Zi, Zi, Zi, Zi, (.bool false), Zi, Zi, (.bool false), Zi, Zi, Zi, Zi, Zi]) [(0, 1), (1, 1), (11, 1)]) [N 9, N 1, N 7] 26 false ::
 IG 29 .callv [F 8, T 27, T 28] 26 false ::
 IG 30 (.field 0 1 false) [T 29] 26 false ::
 IG 31 (.bin .neq) [T 30, N 0] 26 false ::
 I 32 .pick [T 26, Tt, T 31] ::
 Mv 33 32 ::
 Mw 34 1 33 false ::
 IG 35 (.build (.agg [Zi, Zi, Zi, Zi, Zi, (.bool false), Zi, Zi, (.bool false), Zi, Zi, Zi, Zi, Zi]) [(0, 1), (1, 1), (2, 1), (11, 1)]) [N 9, N 1, N 1, N 7] 33 false ::
 IG 36 .callv [F 8, T 34, T 35] 33 false ::
 IG 37 (.field 0 1 false) [T 36] 33 false ::
 IG 38 (.bin .neq) [T 37, N 0] 33 false ::
 I 39 .pick [T 33, Tt, T 38] ::
 []))
 (.cond (T 39)
 (.seq (.region [I 0 .mv [Tf]])
 (.ret))
 (.skip)))
 (.seq (.seq (.region [Mv 40 1, Kc 41 [F 9, T 40], I 42 .lens [T 41], Mn 43 0])
 (.block 0 (.loop c_law20_lives_L0)))
 (.seq (.region [Mv 51 3, Kc 52 [F 21, T 51, N 4], Bi 53 .eql (T 52) (N 2), Mv 54 53, Mw 55 1 54 true, IG 56 .callv [F 9, T 55] 54 true, IG 57 .lens [T 56] 54 true, IG 58 (.bin .eql) [T 57, N 0] 54 true, I 59 .pick [T 54, T 58, Tf], Mv 0 59])
 (.ret))))))⟩
abbrev n_kern_may : Nat := 23
def c_kern_may : AFn := ⟨55, [.tmp 4], .seq (.region [I 2 (.box 28 4) [T 0], I 4 .mv [Tf]])
 (.seq (.region [I 5 .mv [F 66]])
 (.seq (.seq (.region [Fa 6 0 2, Ld 7 6, Bi 8 .lss (T 7) (N 1), Mv 9 8, IG 10 (.fieldAddr 0) [T 2] 9 false, IG 11 .load1 [T 10] 9 false, IG 12 (.bin .gtr) [T 11, N 256] 9 false, I 13 .pick [T 9, Tt, T 12], Mv 14 13, IG 15 (.fieldAddr 1) [T 2] 14 false, IG 16 .load1 [T 15] 14 false, IG 17 (.bin .lss) [T 16, N 0] 14 false, I 18 .pick [T 14, Tt, T 17], Mv 19 18, IG 20 (.fieldAddr 1) [T 2] 19 false, IG 21 .load1 [T 20] 19 false, IG 22 (.fieldAddr 0) [T 2] 19 false, IG 23 .load1 [T 22] 19 false, IG 24 (.bin .gtr) [T 21, T 23] 19 false, I 25 .pick [T 19, Tt, T 24]])
 (.cond (T 25)
 (.seq (.region [I 4 .mv [Tf]])
 (.ret))
 (.skip)))
 (.seq (.region (Fa 26 2 2 ::
 Ld 27 26 ::
 Bi 28 .geq (T 27) (N 0) ::
 Mv 29 28 ::
 IG 30 (.fieldAddr 2) [T 2] 29 true ::
 IG 31 .load1 [T 30] 29 true ::
 IG 32 (.bin .leq) [T 31, N 256] 29 true ::
 I 33 .pick [T 29, T 32, Tf] ::
 Mv 34 33 ::
 IG 35 (.fieldAddr 3) [T 2] 34 true ::
 IG 36 .load1 [T 35] 34 true ::
 IG 37 (.bin .geq) [T 36, N 0] 34 true ::
 I 38 .pick [T 34, T 37, Tf] ::
 Mv 39 38 ::
 IG 40 (.fieldAddr 3) [T 2] 39 true ::
 IG 41 .load1 [T 40] 39 true ::
 IG 42 (.bin .leq) [T 41, N 1024] 39 true ::
 I 43 .pick [T 39, T 42, Tf] ::
 Mv 44 43 ::
 Mw 45 1 44 true ::
 IG 46 .lens [T 45] 44 true ::
 IG 47 (.bin .leq) [T 46, N 16] 44 true ::
 I 48 .pick [T 44, T 47, Tf] ::
 Mv 49 48 ::
 Mw 50 1 49 true ::
 Mw 51 5 49 true ::
 IG 52 .callv [F 67, T 50, T 51] 49 true ::
 IG 53 (.un .not) [T 52] 49 true ::
 I 54 .pick [T 49, T 53, Tf] ::
 Mv 4 54 ::
 []))
 (.ret))))⟩
abbrev n_phys_New : Nat := 24
def c_phys_New : AFn := ⟨13, [.tmp 2], .seq (.region [I 2 .mv [.lit .nilptr]])
 (.seq (.seq (.region [Mv 3 0, Bi 4 .lss (T 3) (N 1), Mv 5 4, Mw 6 0 5 false, IG 7 (.bin .gtr) [T 6, N 256] 5 false, I 8 .pick [T 5, Tt, T 7]])
 (.cond (T 8)
 (.seq (.region [I 2 .mv [.lit .nilptr]])
 (.ret))
 (.skip)))
 (.seq (.region [Mv 9 0, I 10 (.mkslice 302 4096 4096 (.bytes 4096 0)) [T 9, T 9], I 11 (.build (.agg [.nilsl]) [(0, 1)]) [T 10], I 12 (.box 120 1) [T 11], Mv 2 12])
 (.ret)))⟩
abbrev n_frames_New : Nat := 25
def c_frames_New : AFn := ⟨25, [.tmp 4], .seq (.region [I 4 .mv [.lit .nilptr]])
 (.seq (.seq (.region [Mv 5 0, Bi 6 .lss (T 5) (N 1), Mv 7 6, Mw 8 0 7 false, IG 9 (.bin .gtr) [T 8, N 256] 7 false, I 10 .pick [T 7, Tt, T 9], Mv 11 10, Mw 12 1 11 false, IG 13 (.bin .lss) [T 12, N 0] 11 false, I 14 .pick [T 11, Tt, T 13], Mv 15 14, Mw 16 1 15 false, Mw 17 0 15 false, IG 18 (.bin .gtr) [T 16, T 17] 15 false, I 19 .pick [T 15, Tt, T 18]])
 (.cond (T 19)
 (.seq (.region [I 4 .mv [.lit .nilptr]])
 (.ret))
 (.skip)))
 (.seq (.region [Mv 20 0, I 21 (.mkslice 80 5 40 (.vals [Zi, Zi, Zi, Zi, Zi])) [T 20, T 20], Mv 22 1, I 23 (.build (.agg [.nilsl, Zi]) [(0, 1), (1, 1)]) [T 21, T 22], I 24 (.box 123 2) [T 23], Mv 4 24])
 (.ret)))⟩
abbrev n_swap_New : Nat := 26
def c_swap_New : AFn := ⟨13, [.tmp 2], .seq (.region [I 2 .mv [.lit .nilptr]])
 (.seq (.seq (.region [Mv 3 0, Bi 4 .lss (T 3) (N 0), Mv 5 4, Mw 6 0 5 false, IG 7 (.bin .gtr) [T 6, N 256] 5 false, I 8 .pick [T 5, Tt, T 7]])
 (.cond (T 8)
 (.seq (.region [I 2 .mv [.lit .nilptr]])
 (.ret))
 (.skip)))
 (.seq (.region [Mv 9 0, I 10 (.mkmap) [], I 11 (.build (.agg [Zi, (.bool false), .nilmap, Zi, Zi, Zi, Zi]) [(0, 1), (1, 1), (2, 1)]) [T 9, Tt, T 10], I 12 (.box 128 7) [T 11], Mv 2 12])
 (.ret)))⟩
abbrev n_slots_New : Nat := 27
def c_slots_New : AFn := ⟨21, [.tmp 2], .seq (.region [I 2 .mv [.lit .nilptr]])
 (.seq (.seq (.region [Mv 4 0, Bi 5 .lss (T 4) (N 0), Mv 6 5, Mw 7 0 6 false, IG 8 (.bin .gtr) [T 7, N 256] 6 false, I 9 .pick [T 6, Tt, T 8]])
 (.cond (T 9)
 (.seq (.region [I 2 .mv [.lit .nilptr]])
 (.ret))
 (.skip)))
 (.seq (.region [Mv 10 0, Bi 11 .add (T 10) (N 64), Bi 12 .sub (T 11) (N 1), Bi 13 .quo (T 12) (N 64), Mv 3 13])
 (.seq (.draw [[⟨0, Mv 14 0, [], false⟩, ⟨1, Mv 15 3, [], false⟩, ⟨3, Mv 17 3, [], false⟩, ⟨2, I 16 (.mkslice 300 1 8 (.vals [(.int .u64 0)])) [T 15, T 15], [], false⟩, ⟨4, I 18 (.mkslice 300 1 8 (.vals [(.int .u64 0)])) [T 17, T 17], [], false⟩, ⟨5, I 19 (.build (.agg [Zi, .nilsl, .nilsl]) [(0, 1), (1, 1), (2, 1)]) [T 14, T 16, T 18], [], false⟩, ⟨6, I 20 (.box 131 3) [T 19], [], false⟩, ⟨7, Mv 2 20, [], false⟩],
[⟨0, Mv 14 0, [], false⟩, ⟨1, Mv 15 3, [], false⟩, ⟨3, Mv 17 3, [], false⟩, ⟨4, I 18 (.mkslice 300 1 8 (.vals [(.int .u64 0)])) [T 17, T 17], [], false⟩, ⟨2, I 16 (.mkslice 300 1 8 (.vals [(.int .u64 0)])) [T 15, T 15], [], false⟩, ⟨5, I 19 (.build (.agg [Zi, .nilsl, .nilsl]) [(0, 1), (1, 1), (2, 1)]) [T 14, T 16, T 18], [], false⟩, ⟨6, I 20 (.box 131 3) [T 19], [], false⟩, ⟨7, Mv 2 20, [], false⟩]])
 (.ret))))⟩
abbrev n_file_New : Nat := 28
def c_file_New : AFn := ⟨4, [.tmp 0], .seq (.region [I 0 .mv [.lit .nilptr]])
 (.seq (.region [I 1 (.mkmap) [], I 2 (.build (.agg [(.bool false), .nilsl, .nilmap, Zi]) [(0, 1), (2, 1)]) [Tt, T 1], I 3 (.box 134 4) [T 2], Mv 0 3])
 (.ret))⟩
abbrev n_anon_New : Nat := 29
def c_anon_New : AFn := ⟨13, [.tmp 2], .seq (.region [I 2 .mv [.lit .nilptr]])
 (.seq (.seq (.region [Mv 3 0, Bi 4 .lss (T 3) (N 0), Mv 5 4, Mw 6 0 5 false, IG 7 (.bin .gtr) [T 6, N 4096] 5 false, I 8 .pick [T 5, Tt, T 7]])
 (.cond (T 8)
 (.seq (.region [I 2 .mv [.lit .nilptr]])
 (.ret))
 (.skip)))
 (.seq (.region [Mv 9 0, I 10 (.mkmap) [], I 11 (.build (.agg [Zi, (.bool false), .nilmap, .nilsl, Zi]) [(0, 1), (1, 1), (2, 1)]) [T 9, Tt, T 10], I 12 (.box 138 5) [T 11], Mv 2 12])
 (.ret)))⟩
abbrev n_amap_New : Nat := 30
def c_amap_New : AFn := ⟨12, [.tmp 2], .seq (.region [I 2 .mv [.lit .nilptr]])
 (.seq (.seq (.region [Mv 3 0, Bi 4 .lss (T 3) (N 0), Mv 5 4, Mw 6 0 5 false, IG 7 (.bin .gtr) [T 6, N 4096] 5 false, I 8 .pick [T 5, Tt, T 7]])
 (.cond (T 8)
 (.seq (.region [I 2 .mv [.lit .nilptr]])
 (.ret))
 (.skip)))
 (.seq (.region [Mv 9 0, I 10 (.build (.agg [Zi, (.bool false), .nilsl, Zi]) [(0, 1), (1, 1)]) [T 9, Tt], I 11 (.box 141 4) [T 10], Mv 2 11])
 (.ret)))⟩
abbrev n_object_New : Nat := 31
def c_object_New : AFn := ⟨13, [.tmp 2], .seq (.region [I 2 .mv [.lit .nilptr]])
 (.seq (.seq (.region [Mv 3 0, Bi 4 .lss (T 3) (N 0), Mv 5 4, Mw 6 0 5 false, IG 7 (.bin .gtr) [T 6, N 4096] 5 false, I 8 .pick [T 5, Tt, T 7]])
 (.cond (T 8)
 (.seq (.region [I 2 .mv [.lit .nilptr]])
 (.ret))
 (.skip)))
 (.seq (.region [Mv 9 0, I 10 (.mkmap) [], I 11 (.build (.agg [Zi, (.bool false), .nilmap]) [(0, 1), (1, 1), (2, 1)]) [T 9, Tt, T 10], I 12 (.box 144 3) [T 11], Mv 2 12])
 (.ret)))⟩
abbrev n_tlb_New : Nat := 32
def c_tlb_New : AFn := ⟨13, [.tmp 2], .seq (.region [I 2 .mv [.lit .nilptr]])
 (.seq (.seq (.region [Mv 3 0, Bi 4 .lss (T 3) (N 0), Mv 5 4, Mw 6 0 5 false, IG 7 (.bin .gtr) [T 6, N 1024] 5 false, I 8 .pick [T 5, Tt, T 7]])
 (.cond (T 8)
 (.seq (.region [I 2 .mv [.lit .nilptr]])
 (.ret))
 (.skip)))
 (.seq (.region [Mv 9 0, I 10 (.mkmap) [], I 11 (.build (.agg [Zi, .nilsl, .nilmap]) [(0, 1), (2, 1)]) [T 9, T 10], I 12 (.box 148 3) [T 11], Mv 2 12])
 (.ret)))⟩
abbrev n_kern_Kernel_birth : Nat := 34
def c_kern_Kernel_birth_L0 : ACode :=
 .seq (.seq (.region [Mv 8 0, Nc 9 8, Fa 10 9 9, Ld 11 10, Mv 12 4, I 13 (.lookup (.scal .int) .nilptr false) [T 11, T 12], I 14 (.eqv true .ptr) [T 13, .lit .nilptr]])
 (.cond (T 14)
 (.skip)
 (.exit 0)))
 (.block 1 (.region [Mv 15 4, Bi 16 .add (T 15) (N 1), Mv 4 16]))
def c_kern_Kernel_birth : AFn := ⟨45, [.tmp 2, .tmp 3], .seq (.region [I 2 .mv [.lit .nilptr], Mn 3 0])
 (.seq (.region [Mn 4 1])
 (.seq (.block 0 (.loop c_kern_Kernel_birth_L0))
 (.seq (.draw [[⟨0, Mv 18 0, [], false⟩, ⟨1, Nc 19 18, [], false⟩, ⟨2, Fa 20 0 19, [], false⟩, ⟨3, Ld 21 20, [], false⟩, ⟨4, Mv 22 0, [], false⟩, ⟨5, Nc 23 22, [], false⟩, ⟨6, Fa 24 1 23, [], false⟩, ⟨7, Ld 25 24, [], false⟩, ⟨8, Mv 26 4, [], false⟩, ⟨9, Kc 27 [F 69, T 21, T 25, T 26], [], false⟩, ⟨10, Mv 17 27, [], false⟩, ⟨11, Xt 28 0 17, [], false⟩, ⟨12, Xt 29 1 17, [], false⟩, ⟨13, Mv 5 28, [], false⟩, ⟨14, Mv 6 29, [], false⟩]])
 (.seq (.seq (.region [Mv 30 6, Bi 31 .neq (T 30) (N 0)])
 (.cond (T 31)
 (.seq (.region [Mv 32 6, I 2 .mv [.lit .nilptr], Mv 3 32])
 (.ret))
 (.skip)))
 (.seq (.region [Mv 33 4, Kc 34 [F 70], Mv 35 5, I 36 (.build (.agg [Zi, .nilptr, .nilptr, .nilsl]) [(0, 1), (1, 1), (2, 1)]) [T 33, T 34, T 35], I 37 (.box 100 4) [T 36], Mv 7 37])
 (.seq (.region [Mv 38 0, Nc 39 38, Fa 40 9 39, Ld 41 40, Mv 42 4, Mv 43 7, J (.mapput (.scal .int)) [T 41, T 42, T 43]])
 (.seq (.region [Mv 44 7, Mv 2 44, Mn 3 0])
 (.ret))))))))⟩
abbrev n_kern_Kernel_made : Nat := 35
def c_kern_Kernel_made : AFn := ⟨12, [.tmp 2], .seq (.region [I 2 .mv [Tf]])
 (.seq (.region [Mv 3 0, I 4 (.eqv true .ptr) [T 3, .lit .nilptr], Mv 5 4, Mw 6 0 5 true, IG 7 .nilCheck [T 6] 5 true, IG 8 (.fieldAddr 9) [T 7] 5 true, IG 9 .load1 [T 8] 5 true, IG 10 (.eqv true .map) [T 9, .lit .nilmap] 5 true, I 11 .pick [T 5, T 10, Tf], Mv 2 11])
 (.ret))⟩
abbrev n_kern_fails : Nat := 36
def c_kern_fails : AFn := ⟨5, [.cell 2 (.loadn 2)], .seq (.region [I 2 (.alloc 30 2 (.vals [Zi, Zi])) []])
 (.seq (.region [Mv 3 0, I 4 (.build (.agg [Zi, Zi]) [(0, 1)]) [T 3], J (.store 2) [T 2, T 4]])
 (.ret))⟩
abbrev n_kern_Kernel_enter : Nat := 38
def c_kern_Kernel_enter_L0 : ACode :=
 .seq (.region [Bi 93 .lss (T 92) (T 91)])
 (.seq (.cond (T 93)
 (.skip)
 (.exit 1))
 (.seq (.block 2 (.seq (.region [I 94 (.indexs 10) [T 90, T 92], I 95 (.loadn 10) [T 94], I 12 (.alloc 94 10 (.vals [Zi, Zi, Zi, Zi, (.bool false), Zi, Zi, Zi, Zi, (.bool false)])) [], J (.store 10) [T 12, T 95]])
 (.region [Mv 96 0, Mv 97 1, Fa 98 0 12, Ld 99 98, Fa 100 1 12, Ld 101 100, Kc 102 [F 81, T 96, T 97, T 99, T 101]])))
 (.region [Bi 103 .add (T 92) (N 1), Mv 92 103])))
def c_kern_Kernel_enter : AFn := ⟨108, [.cell 6 (.loadn 2)], .seq (.region [I 5 (.box 33 14) [T 2], I 6 (.alloc 30 2 (.vals [Zi, Zi])) []])
 (.seq (.block 0 (.seq (.region [Fa 14 6 5, Ld 15 14, Bi 16 .gtr (T 15) (N 0), Mv 17 16, Mw 18 0 17 true, IG 19 (.fieldAddr 6) [T 5] 17 true, IG 20 .load1 [T 19] 17 true, IG 21 .callv [F 71, T 18, T 20] 17 true, IG 22 (.un .not) [T 21] 17 true, I 23 .pick [T 17, T 22, Tf], Mv 13 23])
 (.cond (T 13)
 (.seq (.region [Kc 24 [F 36, N 7], J (.store 2) [T 6, T 24]])
 (.ret))
 (.seq (.region [Fa 26 6 5, Ld 27 26, Bi 28 .eql (T 27) (N 0), Mv 29 28, IG 30 (.fieldAddr 7) [T 5] 29 true, IG 31 .load1 [T 30] 29 true, IG 32 (.bin .neq) [T 31, N 0] 29 true, I 33 .pick [T 29, T 32, Tf], Mv 25 33])
 (.cond (T 25)
 (.seq (.region [Kc 34 [F 36, N 2], J (.store 2) [T 6, T 34]])
 (.ret))
 (.skip))))))
 (.seq (.region [Fa 35 3 5, Ld 36 35, Fa 37 6 5, Ld 38 37, Fa 39 7 5, Ld 40 39, Fa 41 5 5, Ld 42 41, Fa 43 4 5, Ld 44 43, I 45 (.build (.agg [Zi, Zi, Zi, Zi, (.bool false), Zi, Zi, Zi, Zi, (.bool false)]) [(1, 1), (2, 1), (3, 1), (4, 1), (5, 1), (6, 1)]) [T 36, T 38, T 40, T 42, T 44, N 7], I 7 (.alloc 94 10 (.vals [Zi, Zi, Zi, Zi, (.bool false), Zi, Zi, Zi, Zi, (.bool false)])) [], J (.store 10) [T 7, T 45]])
 (.seq (.seq (.region [Fa 46 5 5, Ld 47 46])
 (.cond (T 47)
 (.region [Fa 48 7 7, J (.store 1) [T 48, N 1]])
 (.skip)))
 (.seq (.seq (.region [Fa 49 5 5, Ld 50 49, Mv 51 50, IG 52 (.fieldAddr 6) [T 5] 51 true, IG 53 .load1 [T 52] 51 true, IG 54 (.bin .eql) [T 53, N 0] 51 true, I 55 .pick [T 51, T 54, Tf]])
 (.cond (T 55)
 (.region [Mv 56 0, Nc 57 56, Fa 58 10 57, Ld 59 58, Bi 60 .add (T 59) (N 1), Fa 61 2 7, J (.store 1) [T 61, T 60]])
 (.skip)))
 (.seq (.draw [[⟨0, Mv 63 1, [], false⟩, ⟨1, Nc 64 63, [], false⟩, ⟨2, Fa 65 1 64, [], false⟩, ⟨3, Ld 66 65, [], false⟩, ⟨4, Fa 67 2 5, [], false⟩, ⟨5, Ld 68 67, [], false⟩, ⟨6, I 69 (.loadn 10) [T 7], [], false⟩, ⟨7, Fa 70 8 5, [], false⟩, ⟨8, Ld 71 70, [], false⟩, ⟨9, Kc 72 [F 80, T 66, T 68, T 69, T 71], [], false⟩, ⟨10, Mv 62 72, [], false⟩, ⟨11, Xt 73 0 62, [], false⟩, ⟨12, Xt 74 1 62, [], false⟩, ⟨13, Xt 75 2 62, [], false⟩, ⟨14, Mv 8 73, [], false⟩, ⟨15, Mv 9 74, [], false⟩, ⟨16, Mv 10 75, [], false⟩]])
 (.seq (.seq (.region [Mv 76 10, Bi 77 .neq (T 76) (N 0)])
 (.cond (T 77)
 (.seq (.region [Mv 78 10, Kc 79 [F 36, T 78], J (.store 2) [T 6, T 79]])
 (.ret))
 (.skip)))
 (.seq (.draw [[⟨0, Mv 80 0, [], false⟩, ⟨1, Mv 81 0, [], false⟩, ⟨2, Nc 82 81, [], false⟩, ⟨3, Fa 83 10 82, [], false⟩, ⟨4, Ld 84 83, [], false⟩, ⟨5, Fa 85 2 7, [], false⟩, ⟨6, Ld 86 85, [], false⟩, ⟨7, I 87 (.max) [T 84, T 86], [], false⟩, ⟨8, Nc 88 80, [], false⟩, ⟨9, Fa 89 10 88, [], false⟩, ⟨10, J (.store 1) [T 89, T 87], [], false⟩]])
 (.seq (.seq (.region [Mv 90 9, I 91 .lens [T 90], Mn 92 0])
 (.block 1 (.loop c_kern_Kernel_enter_L0)))
 (.seq (.region [Mv 104 0, Kc 105 [F 82, T 104]])
 (.seq (.region [Mv 106 8, I 107 (.build (.agg [Zi, Zi]) [(1, 1)]) [T 106], J (.store 2) [T 6, T 107]])
 (.ret)))))))))))⟩
abbrev n_kern_Kernel_access : Nat := 39
def c_kern_Kernel_access : AFn := ⟨79, [.cell 6 (.loadn 2)], .seq (.region [I 5 (.box 33 14) [T 2], I 6 (.alloc 30 2 (.vals [Zi, Zi])) []])
 (.seq (.region [Mn 7 1])
 (.seq (.seq (.region [Fa 13 0 5, Ld 14 13, Bi 15 .eql (T 14) (N 9)])
 (.cond (T 15)
 (.seq (.region [Mn 7 2])
 (.seq (.region [Fa 16 11 5, Ld 17 16, Bi 18 .lss (T 17) (N 0), Mv 19 18, IG 20 (.fieldAddr 11) [T 5] 19 false, IG 21 .load1 [T 20] 19 false, IG 22 (.bin .gtr) [T 21, N 255] 19 false, I 23 .pick [T 19, Tt, T 22]])
 (.cond (T 23)
 (.seq (.region [Kc 24 [F 36, N 2], J (.store 2) [T 6, T 24]])
 (.ret))
 (.skip))))
 (.skip)))
 (.seq (.seq (.region [Mv 25 0, Mv 26 1, Fa 27 2 5, Ld 28 27, Fa 29 10 5, Ld 30 29, Mv 31 7, Kc 32 [F 83, T 25, T 26, T 28, T 30, T 31], Mv 8 32])
 (.seq (.region [Mv 33 8, Bi 34 .neq (T 33) (N 0)])
 (.cond (T 34)
 (.seq (.region [Mv 35 8, Kc 36 [F 36, T 35], J (.store 2) [T 6, T 36]])
 (.ret))
 (.skip))))
 (.seq (.region [Mv 38 0, Mv 39 1, Fa 40 2 5, Ld 41 40, Mv 42 7, Kc 43 [F 84, T 38, T 39, T 41, T 42], Mv 37 43, Xt 44 0 37, Xt 45 1 37, Mv 9 44, Mv 10 45])
 (.seq (.seq (.region [Mv 46 10, Bi 47 .neq (T 46) (N 0)])
 (.cond (T 47)
 (.seq (.region [Mv 48 10, Kc 49 [F 36, T 48], J (.store 2) [T 6, T 49]])
 (.ret))
 (.skip)))
 (.seq (.seq (.region [Fa 50 0 5, Ld 51 50, Bi 52 .eql (T 51) (N 9)])
 (.cond (T 52)
 (.seq (.draw [[⟨0, Mv 53 0, [], false⟩, ⟨1, Nc 54 53, [], false⟩, ⟨2, Fa 55 0 54, [], false⟩, ⟨3, Ld 56 55, [], false⟩, ⟨4, Mv 57 9, [], false⟩, ⟨5, Fa 58 10 5, [], false⟩, ⟨6, Ld 59 58, [], false⟩, ⟨7, Fa 60 11 5, [], false⟩, ⟨8, Ld 61 60, [], false⟩, ⟨9, I 62 (.conv .u8) [T 61], [], false⟩, ⟨10, Kc 63 [F 79, T 56, T 57, T 59, T 62], [], false⟩]])
 (.seq (.region [I 64 (.build (.agg [Zi, Zi]) []) [], J (.store 2) [T 6, T 64]])
 (.ret)))
 (.skip)))
 (.seq (.draw [[⟨0, Mv 66 0, [], false⟩, ⟨1, Nc 67 66, [], false⟩, ⟨2, Fa 68 0 67, [], false⟩, ⟨3, Ld 69 68, [], false⟩, ⟨4, Mv 70 9, [], false⟩, ⟨5, Fa 71 10 5, [], false⟩, ⟨6, Ld 72 71, [], false⟩, ⟨7, Kc 73 [F 77, T 69, T 70, T 72], [], false⟩, ⟨8, Mv 65 73, [], false⟩, ⟨9, Xt 74 0 65, [], false⟩, ⟨10, Xt 75 1 65, [], false⟩, ⟨11, Mv 11 74, [], false⟩, ⟨12, Mv 12 75, [], false⟩]])
 (.seq (.region [Mv 76 11, I 77 (.conv .i64) [T 76], I 78 (.build (.agg [Zi, Zi]) [(1, 1)]) [T 77], J (.store 2) [T 6, T 78]])
 (.ret)))))))))⟩
abbrev n_kern_Kernel_fork : Nat := 40
def c_kern_Kernel_fork_L0 : ACode :=
 .seq (.region [Bi 33 .lss (T 32) (T 31)])
 (.seq (.cond (T 33)
 (.skip)
 (.exit 0))
 (.seq (.block 1 (.seq (.region [I 34 (.indexs 10) [T 30, T 32], I 35 (.loadn 10) [T 34], I 8 (.alloc 94 10 (.vals [Zi, Zi, Zi, Zi, (.bool false), Zi, Zi, Zi, Zi, (.bool false)])) [], J (.store 10) [T 8, T 35]])
 (.seq (.draw [[⟨0, Mv 36 5, [], false⟩, ⟨1, Nc 37 36, [], false⟩, ⟨2, Fa 38 1 37, [], false⟩, ⟨3, Ld 39 38, [], false⟩, ⟨4, Fa 40 0 8, [], false⟩, ⟨5, Ld 41 40, [], false⟩, ⟨6, I 42 (.loadn 10) [T 8], [], false⟩, ⟨7, Kc 43 [F 87, T 42], [(3, Ld 39 38), (5, Ld 41 40)], false⟩, ⟨8, Kc 44 [F 80, T 39, T 41, T 43, Tt], [], false⟩]])
 (.seq (.seq (.region [Fa 45 4 8, Ld 46 45])
 (.cond (T 46)
 (.exit 1)
 (.skip)))
 (.seq (.seq (.region [Fa 47 7 8, Ld 48 47, Bi 49 .eql (T 48) (N 1)])
 (.cond (T 49)
 (.region [Mv 50 0, Mv 51 1, Mv 52 5, I 53 (.loadn 10) [T 8], Kc 54 [F 88, T 50, T 51, T 52, T 53], Mv 6 54])
 (.region [Mv 55 0, Mv 56 1, Mv 57 5, I 58 (.loadn 10) [T 8], Kc 59 [F 89, T 55, T 56, T 57, T 58], Mv 6 59])))
 (.seq (.region [Mv 60 6, Bi 61 .neq (T 60) (N 0)])
 (.cond (T 61)
 (.seq (.region [Mv 62 0, Mv 63 5, Kc 64 [F 41, T 62, T 63]])
 (.seq (.region [Mv 65 6, Kc 66 [F 36, T 65], J (.store 2) [T 4, T 66]])
 (.ret)))
 (.skip))))))))
 (.region [Bi 67 .add (T 32) (N 1), Mv 32 67])))
def c_kern_Kernel_fork : AFn := ⟨73, [.cell 4 (.loadn 2)], .seq (.region [I 4 (.alloc 30 2 (.vals [Zi, Zi])) []])
 (.seq (.seq (.region [Mv 9 0, Nc 10 9, Fa 11 9 10, Ld 12 11, I 13 (.lenm) [T 12], Bi 14 .geq (T 13) (N 16)])
 (.cond (T 14)
 (.seq (.region [Kc 15 [F 36, N 5], J (.store 2) [T 4, T 15]])
 (.ret))
 (.skip)))
 (.seq (.region [Mv 17 0, Kc 18 [F 34, T 17], Mv 16 18, Xt 19 0 16, Xt 20 1 16, Mv 5 19, Mv 6 20])
 (.seq (.seq (.region [Mv 21 6, Bi 22 .neq (T 21) (N 0)])
 (.cond (T 22)
 (.seq (.region [Mv 23 6, Kc 24 [F 36, T 23], J (.store 2) [T 4, T 24]])
 (.ret))
 (.skip)))
 (.seq (.seq (.region [Mv 25 1, Nc 26 25, Fa 27 1 26, Ld 28 27, Kc 29 [F 85, T 28], Kc 30 [F 86, T 29], I 31 .lens [T 30], Mn 32 0])
 (.block 0 (.loop c_kern_Kernel_fork_L0)))
 (.seq (.region [Mv 68 5, Nc 69 68, Fa 70 0 69, Ld 71 70, I 72 (.build (.agg [Zi, Zi]) [(1, 1)]) [T 71], J (.store 2) [T 4, T 72]])
 (.ret))))))⟩
abbrev n_kern_Kernel_exit : Nat := 41
def c_kern_Kernel_exit_L0 : ACode :=
 .seq (.seq (.region [Mv 4 1, Nc 5 4, Fa 6 3 5, Ld 7 6, I 8 .lens [T 7], Bi 9 .gtr (T 8) (N 0)])
 (.cond (T 9)
 (.skip)
 (.exit 0)))
 (.block 1 (.draw [[⟨0, Mv 10 0, [], false⟩, ⟨1, Mv 11 1, [], false⟩, ⟨2, Mv 12 1, [], false⟩, ⟨3, Nc 13 12, [], false⟩, ⟨4, Fa 14 3 13, [], false⟩, ⟨5, Ld 15 14, [], false⟩, ⟨6, I 16 (.indexs 6) [T 15, N 0], [], false⟩, ⟨7, Fa 17 0 16, [], false⟩, ⟨8, Ld 18 17, [], false⟩, ⟨9, Mv 19 1, [], false⟩, ⟨10, Nc 20 19, [], false⟩, ⟨11, Fa 21 3 20, [], false⟩, ⟨12, Ld 22 21, [], false⟩, ⟨13, I 23 (.indexs 6) [T 22, N 0], [], false⟩, ⟨14, Fa 24 1 23, [], false⟩, ⟨15, Ld 25 24, [], false⟩, ⟨16, Kc 26 [F 81, T 10, T 11, T 18, T 25], [], false⟩]]))
def c_kern_Kernel_exit : AFn := ⟨51, [], .seq (.block 0 (.loop c_kern_Kernel_exit_L0))
 (.seq (.region [Mv 27 1, Nc 28 27, Fa 29 2 28, Ld 30 29, Kc 31 [F 90, T 30]])
 (.seq (.draw [[⟨0, Mv 32 0, [], false⟩, ⟨1, Nc 33 32, [], false⟩, ⟨2, Fa 34 8 33, [], false⟩, ⟨3, Ld 35 34, [], false⟩, ⟨4, Mv 36 1, [], false⟩, ⟨5, Nc 37 36, [], false⟩, ⟨6, Fa 38 0 37, [], false⟩, ⟨7, Ld 39 38, [], false⟩, ⟨8, Kc 40 [F 91, T 35, T 39], [], false⟩]])
 (.seq (.draw [[⟨0, Mv 41 0, [], false⟩, ⟨1, Nc 42 41, [], false⟩, ⟨2, Fa 43 9 42, [], false⟩, ⟨3, Ld 44 43, [], false⟩, ⟨4, Mv 45 1, [], false⟩, ⟨5, Nc 46 45, [], false⟩, ⟨6, Fa 47 0 46, [], false⟩, ⟨7, Ld 48 47, [], false⟩, ⟨8, J (.delete (.scal .int)) [T 44, T 48], [], false⟩]])
 (.region [Mv 49 0, Kc 50 [F 82, T 49]]))))⟩
abbrev n_phys_Memory_Frames : Nat := 44
def c_phys_Memory_Frames : AFn := ⟨10, [.tmp 2], .seq (.region [Mn 2 0])
 (.seq (.seq (.region [Mv 3 0, I 4 (.eqv false .ptr) [T 3, .lit .nilptr]])
 (.cond (T 4)
 (.seq (.region [Mn 2 0])
 (.ret))
 (.skip)))
 (.seq (.region [Mv 5 0, Nc 6 5, Fa 7 0 6, Ld 8 7, I 9 .lens [T 8], Mv 2 9])
 (.ret)))⟩
abbrev n_frames_Pool_Get : Nat := 45
def c_frames_Pool_Get : AFn := ⟨30, [.cell 4 (.loadn 5), .tmp 5], .seq (.region [I 4 (.alloc 80 5 (.vals [Zi, Zi, Zi, Zi, Zi])) [], I 5 .mv [Tf]])
 (.seq (.seq (.region [Mv 6 0, Kc 7 [F 103, T 6], I 8 (.un .not) [T 7], Mv 9 8, Mw 10 1 9 false, IG 11 (.bin .lss) [T 10, N 0] 9 false, I 12 .pick [T 9, Tt, T 11], Mv 13 12, Mw 14 1 13 false, Mw 15 0 13 false, IG 16 .nilCheck [T 15] 13 false, IG 17 (.fieldAddr 0) [T 16] 13 false, IG 18 .load1 [T 17] 13 false, IG 19 .lens [T 18] 13 false, IG 20 (.bin .geq) [T 14, T 19] 13 false, I 21 .pick [T 13, Tt, T 20]])
 (.cond (T 21)
 (.seq (.region [I 22 (.build (.agg [Zi, Zi, Zi, Zi, Zi]) []) [], J (.store 5) [T 4, T 22], I 5 .mv [Tf]])
 (.ret))
 (.skip)))
 (.seq (.region [Mv 23 0, Nc 24 23, Fa 25 0 24, Ld 26 25, Mv 27 1, I 28 (.indexs 5) [T 26, T 27], I 29 (.loadn 5) [T 28], J (.store 5) [T 4, T 29], I 5 .mv [Tt]])
 (.ret)))⟩
abbrev n_kern_Kernel_Evict : Nat := 46
def c_kern_Kernel_Evict : AFn := ⟨139, [.tmp 4], .seq (.region [Mn 4 0])
 (.seq (.seq (.region [Mv 13 0, Kc 14 [F 35, T 13], I 15 (.un .not) [T 14]])
 (.cond (T 15)
 (.seq (.region [Mn 4 1])
 (.ret))
 (.skip)))
 (.seq (.region [Mv 17 0, Nc 18 17, Fa 19 1 18, Ld 20 19, Mv 21 1, Kc 22 [F 45, T 20, T 21], Mv 16 22, Xt 23 0 16, Xt 24 1 16, I 5 (.alloc 80 5 (.vals [Zi, Zi, Zi, Zi, Zi])) [], J (.store 5) [T 5, T 23], Mv 6 24])
 (.seq (.block 0 (.seq (.region [Mv 26 6, I 27 (.un .not) [T 26], Mv 28 27, IG 29 (.fieldAddr 0) [T 5] 28 false, IG 30 .load1 [T 29] 28 false, IG 31 (.bin .neq) [T 30, N 2] 28 false, Mw 32 31 28 false, IG 33 (.fieldAddr 0) [T 5] 32 true, IG 34 .load1 [T 33] 32 true, IG 35 (.bin .neq) [T 34, N 3] 32 true, IG 36 .pick [T 32, T 35, Tf] 28 false, I 37 .pick [T 28, Tt, T 36], Mv 25 37])
 (.cond (T 25)
 (.seq (.region [Mn 4 7])
 (.ret))
 (.seq (.region [Fa 39 4 5, Ld 40 39, Bi 41 .gtr (T 40) (N 0), Mv 42 41, Mw 43 0 42 false, IG 44 (.loadn 5) [T 5] 42 false, IG 45 .callv [F 104, T 43, T 44] 42 false, I 46 .pick [T 42, Tt, T 45], Mv 38 46])
 (.cond (T 38)
 (.seq (.region [Mn 4 8])
 (.ret))
 (.skip))))))
 (.seq (.region [Mn 7 0])
 (.seq (.seq (.region [Fa 47 0 5, Ld 48 47, Bi 49 .eql (T 48) (N 3)])
 (.cond (T 49)
 (.draw [[⟨0, Mv 50 0, [], false⟩, ⟨1, Nc 51 50, [], false⟩, ⟨2, Fa 52 7 51, [], false⟩, ⟨3, Ld 53 52, [], false⟩, ⟨4, Fa 54 1 5, [], false⟩, ⟨5, Ld 55 54, [], false⟩, ⟨6, Kc 56 [F 105, T 53, T 55], [], false⟩, ⟨7, Mv 7 56, [], false⟩]])
 (.skip)))
 (.seq (.seq (.region [Mv 57 7, Bi 58 .gtr (T 57) (N 0), Mv 59 58, Mw 60 7 59 true, IG 61 (.bin .leq) [T 60, N 1000] 59 true, I 62 .pick [T 59, T 61, Tf]])
 (.cond (T 62)
 (.seq (.draw [[⟨0, Mv 64 0, [], false⟩, ⟨1, Nc 65 64, [], false⟩, ⟨2, Fa 66 7 65, [], false⟩, ⟨3, Ld 67 66, [], false⟩, ⟨4, Fa 68 1 5, [], false⟩, ⟨5, Ld 69 68, [], false⟩, ⟨6, Fa 70 2 5, [], false⟩, ⟨7, Ld 71 70, [], false⟩, ⟨8, Kc 72 [F 106, T 67, T 69, T 71], [], false⟩, ⟨9, Mv 63 72, [], false⟩, ⟨10, Xt 73 0 63, [], false⟩, ⟨11, Xt 74 1 63, [], false⟩, ⟨12, I 8 (.alloc 179 3 (.vals [Zi, Zi, (.bool false)])) [], [(3, Ld 67 66), (5, Ld 69 68), (7, Ld 71 70)], false⟩, ⟨13, J (.store 3) [T 8, T 73], [], false⟩, ⟨14, Mv 9 74, [], false⟩]])
 (.seq (.seq (.region [Fa 75 2 8, Ld 76 75])
 (.cond (T 76)
 (.seq (.draw [[⟨0, Mv 77 0, [], false⟩, ⟨1, Nc 78 77, [], false⟩, ⟨2, Fa 79 4 78, [], false⟩, ⟨3, Ld 80 79, [], false⟩, ⟨4, Mv 81 7, [], false⟩, ⟨5, Fa 82 2 5, [], false⟩, ⟨6, Ld 83 82, [], false⟩, ⟨7, Mv 84 0, [], false⟩, ⟨8, Nc 85 84, [], false⟩, ⟨9, Fa 86 0 85, [], false⟩, ⟨10, Ld 87 86, [], false⟩, ⟨11, Mv 88 1, [], false⟩, ⟨12, Kc 89 [F 108, T 87, T 88], [(3, Ld 80 79), (6, Ld 83 82)], false⟩, ⟨13, Kc 90 [F 107, T 80, T 81, T 83, T 89], [], false⟩, ⟨14, Mv 10 90, [], false⟩]])
 (.seq (.region [Mv 91 10, Bi 92 .neq (T 91) (N 0)])
 (.cond (T 92)
 (.seq (.region [Mv 93 10, Mv 4 93])
 (.ret))
 (.skip))))
 (.skip)))
 (.seq (.region [Mv 94 0, Mv 95 1, Kc 96 [F 109, T 94, T 95]])
 (.seq (.draw [[⟨0, Mv 97 0, [], false⟩, ⟨1, Nc 98 97, [], false⟩, ⟨2, Fa 99 7 98, [], false⟩, ⟨3, Ld 100 99, [], false⟩, ⟨4, Fa 101 1 5, [], false⟩, ⟨5, Ld 102 101, [], false⟩, ⟨6, Fa 103 2 5, [], false⟩, ⟨7, Ld 104 103, [], false⟩, ⟨8, Kc 105 [F 110, T 100, T 102, T 104], [], false⟩]])
 (.seq (.region [Mn 4 0])
 (.ret))))))
 (.skip)))
 (.seq (.region [Mv 107 0, Mv 108 1, Kc 109 [F 111, T 107, T 108], Mv 106 109, Xt 110 0 106, Xt 111 1 106, Mv 11 110, Mv 12 111])
 (.seq (.seq (.region [Mv 112 12, Bi 113 .neq (T 112) (N 0)])
 (.cond (T 113)
 (.seq (.region [Mv 114 12, Mv 4 114])
 (.ret))
 (.skip)))
 (.seq (.region [Mv 115 0, Mv 116 1, Kc 117 [F 109, T 115, T 116]])
 (.seq (.seq (.region [Mv 118 7, Bi 119 .gtr (T 118) (N 0)])
 (.cond (T 119)
 (.draw [[⟨0, Mv 120 0, [], false⟩, ⟨1, Nc 121 120, [], false⟩, ⟨2, Fa 122 7 121, [], false⟩, ⟨3, Ld 123 122, [], false⟩, ⟨4, Fa 124 1 5, [], false⟩, ⟨5, Ld 125 124, [], false⟩, ⟨6, Fa 126 2 5, [], false⟩, ⟨7, Ld 127 126, [], false⟩, ⟨8, Mv 128 11, [], false⟩, ⟨9, I 129 (.build (.agg [Zi, Zi, (.bool false)]) [(0, 1), (1, 1)]) [N (-1), T 128], [], false⟩, ⟨10, Kc 130 [F 112, T 123, T 125, T 127, T 129], [], false⟩]])
 (.draw [[⟨0, Mv 131 0, [], false⟩, ⟨1, Nc 132 131, [], false⟩, ⟨2, Fa 133 5 132, [], false⟩, ⟨3, Ld 134 133, [], false⟩, ⟨4, Fa 135 1 5, [], false⟩, ⟨5, Ld 136 135, [], false⟩, ⟨6, Mv 137 11, [], false⟩, ⟨7, Kc 138 [F 113, T 134, T 136, N (-1), T 137], [], false⟩]])))
 (.seq (.region [Mn 4 0])
 (.ret))))))))))))⟩
abbrev n_slices_Sorted_int : Nat := 51
def c_slices_Sorted_int : AFn := ⟨9, [.tmp 2], .seq (.region [I 2 .mv [.lit .nilsl]])
 (.seq (.region [Mv 4 0, Kc 5 [F 118, T 4], Mv 3 5])
 (.seq (.region [Mv 6 3, Kc 7 [F 119, T 6]])
 (.seq (.region [Mv 8 3, Mv 2 8])
 (.ret))))⟩
abbrev n_frames_Pool_Free : Nat := 53
def c_frames_Pool_Free : AFn := ⟨5, [.tmp 2], .seq (.region [Mn 2 0])
 (.seq (.region [Mv 3 0, Kc 4 [F 121, T 3, N 0], Mv 2 4])
 (.ret))⟩
abbrev n_vmap_Map_At : Nat := 55
def c_vmap_Map_At : AFn := ⟨31, [.cell 4 (.loadn 10), .tmp 5], .seq (.region [I 4 (.alloc 94 10 (.vals [Zi, Zi, Zi, Zi, (.bool false), Zi, Zi, Zi, Zi, (.bool false)])) [], I 5 .mv [Tf]])
 (.seq (.seq (.region [Mv 8 0, Kc 9 [F 122, T 8], I 10 (.un .not) [T 9]])
 (.cond (T 10)
 (.seq (.region [I 11 (.build (.agg [Zi, Zi, Zi, Zi, (.bool false), Zi, Zi, Zi, Zi, (.bool false)]) []) [], J (.store 10) [T 4, T 11], I 5 .mv [Tf]])
 (.ret))
 (.skip)))
 (.seq (.region [Mv 13 0, Nc 14 13, Fa 15 0 14, Ld 16 15, Mv 17 1, Kc 18 [F 123, T 16, T 17], Mv 12 18, Xt 19 0 12, Xt 20 1 12, Mv 6 19, Mv 7 20])
 (.seq (.seq (.region [Mv 21 7, I 22 (.un .not) [T 21]])
 (.cond (T 22)
 (.seq (.region [I 23 (.build (.agg [Zi, Zi, Zi, Zi, (.bool false), Zi, Zi, Zi, Zi, (.bool false)]) []) [], J (.store 10) [T 4, T 23], I 5 .mv [Tf]])
 (.ret))
 (.skip)))
 (.seq (.region [Mv 24 0, Nc 25 24, Fa 26 0 25, Ld 27 26, Mv 28 6, I 29 (.indexs 10) [T 27, T 28], I 30 (.loadn 10) [T 29], J (.store 10) [T 4, T 30], I 5 .mv [Tt]])
 (.ret)))))⟩
abbrev n_anon_Pool_Get : Nat := 56
def c_anon_Pool_Get : AFn := ⟨23, [.cell 4 (.loadn 3), .tmp 5], .seq (.region [I 4 (.alloc 103 3 (.vals [Zi, Zi, Zi])) [], I 5 .mv [Tf]])
 (.seq (.seq (.region [Mv 8 0, Kc 9 [F 124, T 8], I 10 (.un .not) [T 9]])
 (.cond (T 10)
 (.seq (.region [I 11 (.build (.agg [Zi, Zi, Zi]) []) [], J (.store 3) [T 4, T 11], I 5 .mv [Tf]])
 (.ret))
 (.skip)))
 (.seq (.region [Mv 13 0, Nc 14 13, Fa 15 2 14, Ld 16 15, Mv 17 1, I 18 (.lookup (.scal .int) (.agg [Zi, Zi, Zi]) true) [T 16, T 17], Mv 12 18, Xt 19 0 12, Xt 20 1 12, I 6 (.alloc 103 3 (.vals [Zi, Zi, Zi])) [], J (.store 3) [T 6, T 19], Mv 7 20])
 (.seq (.region [I 21 (.loadn 3) [T 6], Mv 22 7, J (.store 3) [T 4, T 21], Mv 5 22])
 (.ret))))⟩
abbrev n_kern_Kernel_anonAt : Nat := 57
def c_kern_Kernel_anonAt : AFn := ⟨33, [.tmp 6], .seq (.region [Mn 6 0])
 (.seq (.region [Mv 8 1, Mv 9 2, Kc 10 [F 125, T 8, T 9], Mv 7 10])
 (.seq (.seq (.region [Mv 11 7, I 12 (.eqv false .ptr) [T 11, .lit .nilptr]])
 (.cond (T 12)
 (.seq (.region [Mn 6 0])
 (.ret))
 (.skip)))
 (.seq (.draw [[⟨0, Mv 13 0, [], false⟩, ⟨1, Nc 14 13, [], false⟩, ⟨2, Fa 15 6 14, [], false⟩, ⟨3, Ld 16 15, [], false⟩, ⟨4, Mv 17 7, [], false⟩, ⟨5, Nc 18 17, [], false⟩, ⟨6, Fa 19 2 18, [], false⟩, ⟨7, Ld 20 19, [], false⟩, ⟨8, Mv 21 7, [], false⟩, ⟨9, Nc 22 21, [], false⟩, ⟨10, Fa 23 3 22, [], false⟩, ⟨11, Ld 24 23, [], false⟩, ⟨12, Mv 25 2, [], false⟩, ⟨13, Bi 26 .add (T 24) (T 25), [], false⟩, ⟨14, Mv 27 7, [], false⟩, ⟨15, Nc 28 27, [], false⟩, ⟨16, Fa 29 0 28, [], false⟩, ⟨17, Ld 30 29, [], false⟩, ⟨18, Bi 31 .sub (T 26) (T 30), [], false⟩, ⟨19, Kc 32 [F 126, T 16, T 20, T 31], [], false⟩, ⟨20, Mv 6 32, [], false⟩]])
 (.ret))))⟩
abbrev n_kern_Kernel_held : Nat := 58
def c_kern_Kernel_held : AFn := ⟨21, [.tmp 6], .seq (.region [I 6 .mv [.lit .nilsl]])
 (.seq (.seq (.region [Mv 7 1, Bi 8 .geq (T 7) (N 0)])
 (.cond (T 8)
 (.seq (.region [Mv 9 0, Nc 10 9, Fa 11 0 10, Ld 12 11, Mv 13 1, Kc 14 [F 108, T 12, T 13], Mv 6 14])
 (.ret))
 (.skip)))
 (.seq (.region [Mv 15 0, Nc 16 15, Fa 17 2 16, Ld 18 17, Mv 19 2, Kc 20 [F 127, T 18, T 19], Mv 6 20])
 (.ret)))⟩
abbrev n_kern_Kernel_gone : Nat := 59
def c_kern_Kernel_gone : AFn := ⟨33, [.tmp 6], .seq (.region [I 6 .mv [Tf]])
 (.seq (.region [Mv 10 0, Nc 11 10, Fa 12 4 11, Ld 13 12, Mv 14 1, Kc 15 [F 128, T 13, T 14], Mv 9 15, Xt 16 0 9, Xt 17 1 9, Mv 7 16, Mv 8 17])
 (.seq (.region [Mv 18 1, Bi 19 .gtr (T 18) (N 0), Mv 20 19, Mw 21 1 20 true, IG 22 (.bin .leq) [T 21, N 1000] 20 true, I 23 .pick [T 20, T 22, Tf], Mv 24 23, Mw 25 2 24 true, IG 26 (.bin .lss) [T 25, N 0] 24 true, Mw 27 26 24 true, Mw 28 2 27 false, Mw 29 7 27 false, IG 30 (.bin .geq) [T 28, T 29] 27 false, IG 31 .pick [T 27, Tt, T 30] 24 true, I 32 .pick [T 24, T 31, Tf], Mv 6 32])
 (.ret)))⟩
abbrev n_daemon_Daemon_made : Nat := 62
def c_daemon_Daemon_made : AFn := ⟨12, [.tmp 2], .seq (.region [I 2 .mv [Tf]])
 (.seq (.region [Mv 3 0, I 4 (.eqv true .ptr) [T 3, .lit .nilptr], Mv 5 4, Mw 6 0 5 true, IG 7 .nilCheck [T 6] 5 true, IG 8 (.fieldAddr 0) [T 7] 5 true, IG 9 .load1 [T 8] 5 true, IG 10 (.eqv true .ptr) [T 9, .lit .nilptr] 5 true, I 11 .pick [T 5, T 10, Tf], Mv 2 11])
 (.ret))⟩
abbrev n_daemon_Daemon_look : Nat := 64
def c_daemon_Daemon_look : AFn := ⟨34, [.tmp 2, .tmp 3], .seq (.region [I 2 .mv [Tf], I 3 .mv [Tf]])
 (.seq (.region [Mv 8 0, Nc 9 8, Fa 10 1 9, Ld 11 10, Kc 12 [F 137, T 11, N 1], Mv 7 12, Xt 13 0 7, Xt 14 1 7, Mv 4 13, Mv 5 14])
 (.seq (.region [Mv 15 0, I 16 (.mkfunc 138 1) [T 15], Mv 6 16])
 (.seq (.seq (.region [Mv 17 5, I 18 (.un .not) [T 17]])
 (.cond (T 18)
 (.seq (.seq (.region [Mv 20 0, Nc 21 20, Fa 22 1 21, Ld 23 22, Kc 24 [F 137, T 23, N 0], Mv 19 24, Xt 25 0 19, Xt 26 1 19, Mv 4 25, Mv 5 26])
 (.seq (.region [Mv 27 5, I 28 (.un .not) [T 27]])
 (.cond (T 28)
 (.seq (.region [I 2 .mv [Tf], I 3 .mv [Tf]])
 (.ret))
 (.skip))))
 (.region [Mv 29 0, I 30 (.mkfunc 139 1) [T 29], Mv 6 30]))
 (.skip)))
 (.seq (.region [Mv 31 6, Mv 32 4, Kc 33 [T 31, T 32], Mv 2 33, I 3 .mv [Tt]])
 (.ret)))))⟩
abbrev n_slices_ContainsFunc_int_int : Nat := 67
def c_slices_ContainsFunc_int_int : AFn := ⟨9, [.tmp 4], .seq (.region [I 4 .mv [Tf]])
 (.seq (.region [Mv 5 0, Mv 6 1, Kc 7 [F 144, T 5, T 6], Bi 8 .geq (T 7) (N 0), Mv 4 8])
 (.ret))⟩
abbrev n_file_Store_made : Nat := 68
def c_file_Store_made : AFn := ⟨11, [.tmp 2], .seq (.region [I 2 .mv [Tf]])
 (.seq (.region [Mv 3 0, I 4 (.eqv true .ptr) [T 3, .lit .nilptr], Mv 5 4, Mw 6 0 5 true, IG 7 .nilCheck [T 6] 5 true, IG 8 (.fieldAddr 0) [T 7] 5 true, IG 9 .load1 [T 8] 5 true, I 10 .pick [T 5, T 9, Tf], Mv 2 10])
 (.ret))⟩
abbrev n_pmap_New : Nat := 69
def c_pmap_New : AFn := ⟨31, [.tmp 6, .tmp 7], .seq (.region [I 6 .mv [.lit .nilptr], Mn 7 0])
 (.seq (.seq (.region [Mv 10 0, Kc 11 [F 44, T 10], Bi 12 .eql (T 11) (N 0)])
 (.cond (T 12)
 (.seq (.region [I 6 .mv [.lit .nilptr], Mn 7 1])
 (.ret))
 (.skip)))
 (.seq (.region [Mv 14 1, Mv 15 2, Kc 16 [F 145, T 14, N 1, T 15, N 0], Mv 13 16, Xt 17 0 13, Xt 18 1 13, Mv 8 17, Mv 9 18])
 (.seq (.seq (.region [Mv 19 9, Bi 20 .neq (T 19) (N 0)])
 (.cond (T 20)
 (.seq (.region [Mv 21 9, I 6 .mv [.lit .nilptr], Mv 7 21])
 (.ret))
 (.skip)))
 (.seq (.region [Mv 22 0, Mv 23 8, Kc 24 [F 146, T 22, T 23]])
 (.seq (.region [Mv 25 0, Mv 26 1, Mv 27 2, Mv 28 8, I 29 (.build (.agg [.nilptr, .nilptr, Zi, Zi, Zi]) [(0, 1), (1, 1), (2, 1), (3, 1), (4, 1)]) [T 25, T 26, T 27, T 28, N 1], I 30 (.box 210 5) [T 29], Mv 6 30, Mn 7 0])
 (.ret))))))⟩
abbrev n_vmap_New : Nat := 70
def c_vmap_New : AFn := ⟨3, [.tmp 0], .seq (.region [I 0 .mv [.lit .nilptr]])
 (.seq (.region [I 1 (.build (.agg [.nilsl, (.bool false)]) [(1, 1)]) [Tt], I 2 (.box 190 2) [T 1], Mv 0 2])
 (.ret))⟩
abbrev n_phys_Memory_Byte : Nat := 77
def c_phys_Memory_Byte : AFn := ⟨27, [.tmp 6, .tmp 7], .seq (.region [I 6 .mv [.lit (.int .u8 0)], I 7 .mv [Tf]])
 (.seq (.region [Mv 9 0, Mv 10 1, Kc 11 [F 159, T 9, T 10], Mv 8 11])
 (.seq (.seq (.region [Mv 12 8, I 13 (.eqv false .ptr) [T 12, .lit .nilptr], Mv 14 13, Mw 15 2 14 false, IG 16 (.bin .lss) [T 15, N 0] 14 false, I 17 .pick [T 14, Tt, T 16], Mv 18 17, Mw 19 2 18 false, IG 20 (.bin .geq) [T 19, N 4096] 18 false, I 21 .pick [T 18, Tt, T 20]])
 (.cond (T 21)
 (.seq (.region [I 6 .mv [.lit (.int .u8 0)], I 7 .mv [Tf]])
 (.ret))
 (.skip)))
 (.seq (.region [Mv 22 8, Mv 23 2, Nc 24 22, I 25 (.indexa 4096 1) [T 24, T 23], Ld 26 25, Mv 6 26, I 7 .mv [Tt]])
 (.ret))))⟩
abbrev n_phys_Memory_SetByte : Nat := 79
def c_phys_Memory_SetByte : AFn := ⟨28, [.tmp 8], .seq (.region [I 8 .mv [Tf]])
 (.seq (.region [Mv 10 0, Mv 11 1, Kc 12 [F 159, T 10, T 11], Mv 9 12])
 (.seq (.seq (.region [Mv 13 9, I 14 (.eqv false .ptr) [T 13, .lit .nilptr], Mv 15 14, Mw 16 2 15 false, IG 17 (.bin .lss) [T 16, N 0] 15 false, I 18 .pick [T 15, Tt, T 17], Mv 19 18, Mw 20 2 19 false, IG 21 (.bin .geq) [T 20, N 4096] 19 false, I 22 .pick [T 19, Tt, T 21]])
 (.cond (T 22)
 (.seq (.region [I 8 .mv [Tf]])
 (.ret))
 (.skip)))
 (.seq (.region [Mv 23 9, Mv 24 2, Mv 25 3, Nc 26 23, I 27 (.indexa 4096 1) [T 26, T 24], J (.store 1) [T 27, T 25]])
 (.seq (.region [I 8 .mv [Tt]])
 (.ret)))))⟩
abbrev n_vmap_Map_Map : Nat := 80
def c_vmap_Map_Map : AFn := ⟨100, [.tmp 8, .tmp 9, .tmp 10], .seq (.region [I 6 (.box 94 10) [T 2], Mn 8 0, I 9 .mv [.lit .nilsl], Mn 10 0])
 (.seq (.seq (.region [Mv 16 0, Kc 17 [F 122, T 16], I 18 (.un .not) [T 17]])
 (.cond (T 18)
 (.seq (.region [Mn 8 0, I 9 .mv [.lit .nilsl], Mn 10 1])
 (.ret))
 (.skip)))
 (.seq (.seq (.region [Fa 19 0 6, Ld 20 19, Bi 21 .lss (T 20) (N 0), Mv 22 21, IG 23 (.fieldAddr 1) [T 6] 22 false, IG 24 .load1 [T 23] 22 false, IG 25 (.fieldAddr 0) [T 6] 22 false, IG 26 .load1 [T 25] 22 false, IG 27 (.bin .leq) [T 24, T 26] 22 false, I 28 .pick [T 22, Tt, T 27], Mv 29 28, IG 30 (.fieldAddr 1) [T 6] 29 false, IG 31 .load1 [T 30] 29 false, IG 32 (.fieldAddr 0) [T 6] 29 false, IG 33 .load1 [T 32] 29 false, IG 34 (.bin .sub) [T 31, T 33] 29 false, IG 35 (.bin .gtr) [T 34, N 4096] 29 false, I 36 .pick [T 29, Tt, T 35]])
 (.cond (T 36)
 (.seq (.region [Mn 8 0, I 9 .mv [.lit .nilsl], Mn 10 2])
 (.ret))
 (.skip)))
 (.seq (.region [Fa 37 1 6, Ld 38 37, Fa 39 0 6, Ld 40 39, Bi 41 .sub (T 38) (T 40), Mv 11 41])
 (.seq (.region [Mv 42 11, Fa 43 0 6, J (.store 1) [T 43, N 0], Fa 44 1 6, J (.store 1) [T 44, T 42]])
 (.seq (.seq (.region [I 45 (.loadn 10) [T 6], Kc 46 [F 161, T 45], I 47 (.un .not) [T 46], Mv 48 47, Mw 49 3 48 false, Mw 50 49 48 false, Mw 51 1 50 true, Mw 52 11 50 true, IG 53 .callv [F 162, T 51, T 52] 50 true, IG 54 (.un .not) [T 53] 50 true, IG 55 .pick [T 50, T 54, Tf] 48 false, I 56 .pick [T 48, Tt, T 55]])
 (.cond (T 56)
 (.seq (.region [Mn 8 0, I 9 .mv [.lit .nilsl], Mn 10 2])
 (.ret))
 (.skip)))
 (.seq (.region [I 12 .mv [.lit .nilsl]])
 (.seq (.region [Mv 57 0, Nc 58 57, Fa 59 0 58, Ld 60 59, Mv 13 60])
 (.seq (.seq (.region [Mv 61 3])
 (.cond (T 61)
 (.region [Mv 63 13, Mv 64 1, Mv 65 1, Mv 66 11, Bi 67 .add (T 65) (T 66), Kc 68 [F 163, T 63, T 64, T 67], Mv 62 68, Xt 69 0 62, Xt 70 1 62, Mv 13 69, Mv 12 70])
 (.seq (.region [Mv 72 13, Mv 73 1, Mv 74 11, Kc 75 [F 164, T 72, T 73, T 74], Mv 71 75, Xt 76 0 71, Xt 77 1 71, Mv 14 76, Mv 15 77])
 (.seq (.seq (.region [Mv 78 15, I 79 (.un .not) [T 78]])
 (.cond (T 79)
 (.seq (.region [Mn 8 0, I 9 .mv [.lit .nilsl], Mn 10 5])
 (.ret))
 (.skip)))
 (.region [Mv 80 14, Mv 1 80])))))
 (.seq (.region [Mv 81 1, Mv 82 1, Mv 83 11, Bi 84 .add (T 82) (T 83), Fa 85 0 6, J (.store 1) [T 85, T 81], Fa 86 1 6, J (.store 1) [T 86, T 84]])
 (.seq (.region [Mv 88 13, I 89 (.loadn 10) [T 6], Kc 90 [F 165, T 88, T 89], Mv 87 90, Xt 91 0 87, Xt 92 1 87, Mv 13 91])
 (.seq (.region [Mv 93 0, Mv 94 13, Kc 95 [F 166, T 94], Nc 96 93, Fa 97 0 96, J (.store 1) [T 97, T 95]])
 (.seq (.region [Mv 98 1, Mv 99 12, Mv 8 98, Mv 9 99, Mn 10 0])
 (.ret)))))))))))))⟩
abbrev n_kern_Kernel_strip : Nat := 81
def c_kern_Kernel_strip_L0 : ACode :=
 .seq (.region [Bi 16 .lss (T 15) (T 14)])
 (.seq (.cond (T 16)
 (.skip)
 (.exit 0))
 (.seq (.block 1 (.seq (.region [I 17 (.indexs 6) [T 13, T 15], I 18 (.loadn 6) [T 17], I 9 (.alloc 168 6 (.vals [Zi, Zi, Zi, Zi, (.bool false), (.bool false)])) [], J (.store 6) [T 9, T 18]])
 (.region [Mv 19 0, I 20 (.loadn 6) [T 9], Kc 21 [F 95, T 19, T 20]])))
 (.region [Bi 22 .add (T 15) (N 1), Mv 15 22])))
def c_kern_Kernel_strip : AFn := ⟨37, [], .seq (.region [I 6 (.box 3 1) [T 2], I 7 (.box 3 1) [T 3]])
 (.seq (.seq (.region [Mv 10 1, Ld 11 6, Ld 12 7, Kc 13 [F 167, T 10, T 11, T 12], I 14 .lens [T 13], Mn 15 0])
 (.block 0 (.loop c_kern_Kernel_strip_L0)))
 (.seq (.region [Mv 23 1, Mv 24 1, Nc 25 24, Fa 26 3 25, Ld 27 26, I 28 (.mkfunc 169 0) [T 6, T 7], Kc 29 [F 168, T 27, T 28], Nc 30 23, Fa 31 3 30, J (.store 1) [T 31, T 29]])
 (.region [Mv 32 0, Mv 33 1, Ld 34 6, Ld 35 7, Kc 36 [F 99, T 32, T 33, T 34, T 35]])))⟩
abbrev n_kern_Kernel_reap : Nat := 82
def c_kern_Kernel_reap_L1 : ACode :=
 .seq (.region [Bi 27 .lss (T 26) (T 25)])
 (.seq (.cond (T 27)
 (.skip)
 (.exit 2))
 (.seq (.block 3 (.seq (.region [I 28 (.indexs 10) [T 24, T 26], I 29 (.loadn 10) [T 28], I 6 (.alloc 94 10 (.vals [Zi, Zi, Zi, Zi, (.bool false), Zi, Zi, Zi, Zi, (.bool false)])) [], J (.store 10) [T 6, T 29]])
 (.region [Mv 30 2, Fa 31 2 6, Ld 32 31, J (.mapput (.scal .int)) [T 30, T 32, Tt]])))
 (.region [Bi 33 .add (T 26) (N 1), Mv 26 33])))
def c_kern_Kernel_reap_L0 : ACode :=
 .seq (.region [I 16 (.next) [T 15], Xt 17 0 16])
 (.seq (.cond (T 17)
 (.skip)
 (.exit 0))
 (.block 1 (.seq (.region [I 18 (.entry) [T 15], Xt 19 1 18, Mv 4 19])
 (.seq (.region [Mv 20 4, Nc 21 20, Fa 22 1 21, Ld 23 22, Kc 24 [F 86, T 23], I 25 .lens [T 24], Mn 26 0])
 (.block 2 (.loop c_kern_Kernel_reap_L1))))))
def c_kern_Kernel_reap_L2 : ACode :=
 .seq (.region [Bi 41 .lss (T 40) (T 39)])
 (.seq (.cond (T 41)
 (.skip)
 (.exit 4))
 (.seq (.block 5 (.seq (.region [I 42 (.indexs 1) [T 38, T 40], Ld 43 42, Mv 8 43])
 (.seq (.region [Mv 44 0, Nc 45 44, Fa 46 7 45, Ld 47 46, Mv 48 8, Kc 49 [F 105, T 47, T 48], Mv 9 49])
 (.seq (.region [Mv 50 9, Bi 51 .gtr (T 50) (N 1000), Mv 52 51, Mw 53 2 52 true, Mw 54 9 52 true, IG 55 (.lookup (.scal .int) (.bool false) false) [T 53, T 54] 52 true, IG 56 (.un .not) [T 55] 52 true, I 57 .pick [T 52, T 56, Tf]])
 (.cond (T 57)
 (.region [Mv 58 0, Mv 59 8, Kc 60 [F 75, T 58, T 59, N 0]])
 (.skip))))))
 (.region [Bi 61 .add (T 40) (N 1), Mv 40 61])))
def c_kern_Kernel_reap : AFn := ⟨62, [], .seq (.region [I 10 (.mkmap) [], Mv 2 10])
 (.seq (.seq (.region [Mv 11 0, Nc 12 11, Fa 13 9 12, Ld 14 13, I 15 (.range) [T 14]])
 (.block 0 (.loop c_kern_Kernel_reap_L0)))
 (.seq (.region [Mv 34 0, Nc 35 34, Fa 36 7 35, Ld 37 36, Kc 38 [F 151, T 37], I 39 .lens [T 38], Mn 40 0])
 (.block 4 (.loop c_kern_Kernel_reap_L2))))⟩
abbrev n_kern_Kernel_allowed : Nat := 83
def c_kern_Kernel_allowed : AFn := ⟨61, [.tmp 10], .seq (.region [Mn 10 0])
 (.seq (.region [Mv 14 1, Nc 15 14, Fa 16 1 15, Ld 17 16, Mv 18 2, Kc 19 [F 55, T 17, T 18], Mv 13 19, Xt 20 0 13, Xt 21 1 13, I 11 (.alloc 94 10 (.vals [Zi, Zi, Zi, Zi, (.bool false), Zi, Zi, Zi, Zi, (.bool false)])) [], J (.store 10) [T 11, T 20], Mv 12 21])
 (.seq (.block 0 (.seq (.region [Mv 23 3, Bi 24 .lss (T 23) (N 0), Mv 25 24, Mw 26 3 25 false, IG 27 (.bin .geq) [T 26, N 4096] 25 false, I 28 .pick [T 25, Tt, T 27], Mv 22 28])
 (.cond (T 22)
 (.seq (.region [Mn 10 2])
 (.ret))
 (.seq (.region [Mv 30 12, I 31 (.un .not) [T 30], Mv 29 31])
 (.cond (T 29)
 (.seq (.region [Mn 10 4])
 (.ret))
 (.seq (.region [Fa 33 5 11, Ld 34 33, Mv 35 4, Bi 36 .and (T 34) (T 35), Bi 37 .eql (T 36) (N 0), Mv 32 37])
 (.cond (T 32)
 (.seq (.region [Mn 10 3])
 (.ret))
 (.seq (.region [Fa 39 4 11, Ld 40 39, Mv 41 40, Mw 42 0 41 false, Mw 43 1 41 false, Mw 44 2 41 false, IG 45 .callv [F 57, T 42, T 43, T 44] 41 false, IG 46 (.bin .eql) [T 45, N 0] 41 false, I 47 .pick [T 41, Tt, T 46], Mv 48 47, Mw 49 0 48 true, IG 50 (.fieldAddr 2) [T 11] 48 true, IG 51 .load1 [T 50] 48 true, IG 52 (.fieldAddr 3) [T 11] 48 true, IG 53 .load1 [T 52] 48 true, Mw 54 2 48 true, IG 55 (.bin .add) [T 53, T 54] 48 true, IG 56 (.fieldAddr 0) [T 11] 48 true, IG 57 .load1 [T 56] 48 true, IG 58 (.bin .sub) [T 55, T 57] 48 true, IG 59 .callv [F 59, T 49, T 51, T 58] 48 true, I 60 .pick [T 48, T 59, Tf], Mv 38 60])
 (.cond (T 38)
 (.seq (.region [Mn 10 4])
 (.ret))
 (.skip))))))))))
 (.seq (.region [Mn 10 0])
 (.ret))))⟩
abbrev n_kern_Kernel_find : Nat := 84
def c_kern_Kernel_find_L0 : ACode :=
 .seq (.region [Bi 14 .lss (T 13) (N 3)])
 (.seq (.cond (T 14)
 (.skip)
 (.exit 0))
 (.seq (.block 1 (.seq (.seq (.region [Mv 16 0, Mv 17 1, Mv 18 2, Mv 19 3, Kc 20 [F 170, T 16, T 17, T 18, T 19], Mv 15 20, Xt 21 0 15, Xt 22 1 15, Mv 10 21, Mv 11 22])
 (.seq (.region [Mv 23 11])
 (.cond (T 23)
 (.seq (.region [Mv 24 10, Mv 8 24, Mn 9 0])
 (.ret))
 (.skip))))
 (.seq (.region [Mv 25 0, Mv 26 1, Mv 27 2, Mv 28 3, Bi 29 .eql (T 28) (N 2), Kc 30 [F 171, T 25, T 26, T 27, T 29], Mv 12 30])
 (.seq (.region [Mv 31 12, Bi 32 .neq (T 31) (N 0)])
 (.cond (T 32)
 (.seq (.region [Mv 33 12, Mn 8 (-1), Mv 9 33])
 (.ret))
 (.skip))))))
 (.region [Bi 34 .add (T 13) (N 1), Mv 13 34])))
def c_kern_Kernel_find : AFn := ⟨35, [.tmp 8, .tmp 9], .seq (.region [Mn 8 0, Mn 9 0])
 (.seq (.seq (.region [Mn 13 0])
 (.block 0 (.loop c_kern_Kernel_find_L0)))
 (.seq (.region [Mn 8 (-1), Mn 9 4])
 (.ret)))⟩
abbrev n_vmap_Map_Fork : Nat := 85
def c_vmap_Map_Fork_L0 : ACode :=
 .seq (.region [Bi 16 .lss (T 15) (T 14)])
 (.seq (.cond (T 16)
 (.skip)
 (.exit 0))
 (.seq (.block 1 (.seq (.region [I 17 (.indexs 10) [T 13, T 15], I 18 (.loadn 10) [T 17], I 5 (.alloc 94 10 (.vals [Zi, Zi, Zi, Zi, (.bool false), Zi, Zi, Zi, Zi, (.bool false)])) [], J (.store 10) [T 5, T 18]])
 (.seq (.region [Fa 19 9 5, J (.store 1) [T 19, Tf]])
 (.seq (.region [Fa 20 7 5, Ld 21 20, Bi 22 .neq (T 21) (N 2)])
 (.cond (T 22)
 (.draw [[⟨0, Mv 23 3, [], false⟩, ⟨1, Mv 24 3, [], false⟩, ⟨2, Nc 25 24, [], false⟩, ⟨3, Fa 26 0 25, [], false⟩, ⟨4, Ld 27 26, [], false⟩, ⟨5, I 28 (.loadn 10) [T 5], [], false⟩, ⟨6, I 29 (.bslice 94 10 1 (.vals [Zi, Zi, Zi, Zi, (.bool false), Zi, Zi, Zi, Zi, (.bool false)]) [0]) [T 28], [(4, Ld 27 26)], false⟩, ⟨7, I 30 (.append 94 10 80 (.vals [Zi, Zi, Zi, Zi, (.bool false), Zi, Zi, Zi, Zi, (.bool false)])) [T 27, T 29], [], false⟩, ⟨8, Nc 31 23, [], false⟩, ⟨9, Fa 32 0 31, [], false⟩, ⟨10, J (.store 1) [T 32, T 30], [], false⟩]])
 (.skip))))))
 (.region [Bi 33 .add (T 15) (N 1), Mv 15 33])))
def c_vmap_Map_Fork : AFn := ⟨43, [.tmp 2], .seq (.region [I 2 .mv [.lit .nilptr]])
 (.seq (.seq (.region [Mv 6 0, Kc 7 [F 122, T 6], I 8 (.un .not) [T 7]])
 (.cond (T 8)
 (.seq (.region [I 2 .mv [.lit .nilptr]])
 (.ret))
 (.skip)))
 (.seq (.region [Kc 9 [F 70], Mv 3 9])
 (.seq (.seq (.region [Mv 10 0, Nc 11 10, Fa 12 0 11, Ld 13 12, I 14 .lens [T 13], Mn 15 0])
 (.block 0 (.loop c_vmap_Map_Fork_L0)))
 (.seq (.region [Mv 34 3, Mv 35 3, Nc 36 35, Fa 37 0 36, Ld 38 37, Kc 39 [F 166, T 38], Nc 40 34, Fa 41 0 40, J (.store 1) [T 41, T 39]])
 (.seq (.region [Mv 42 3, Mv 2 42])
 (.ret))))))⟩
abbrev n_vmap_Map_Entries : Nat := 86
def c_vmap_Map_Entries : AFn := ⟨11, [.tmp 2], .seq (.region [I 2 .mv [.lit .nilsl]])
 (.seq (.seq (.region [Mv 3 0, Kc 4 [F 122, T 3], I 5 (.un .not) [T 4]])
 (.cond (T 5)
 (.seq (.region [I 2 .mv [.lit .nilsl]])
 (.ret))
 (.skip)))
 (.seq (.region [Mv 6 0, Nc 7 6, Fa 8 0 7, Ld 9 8, Kc 10 [F 172, T 9], Mv 2 10])
 (.ret)))⟩
abbrev n_kern_heir : Nat := 87
def c_kern_heir : AFn := ⟨12, [.cell 2 (.loadn 10)], .seq (.region [I 1 (.box 94 10) [T 0], I 2 (.alloc 94 10 (.vals [Zi, Zi, Zi, Zi, (.bool false), Zi, Zi, Zi, Zi, (.bool false)])) []])
 (.seq (.region [Fa 3 4 1, Ld 4 3, Mv 5 4, IG 6 (.fieldAddr 7) [T 1] 5 true, IG 7 .load1 [T 6] 5 true, IG 8 (.bin .eql) [T 7, N 1] 5 true, I 9 .pick [T 5, T 8, Tf], Fa 10 4 1, J (.store 1) [T 10, T 9]])
 (.seq (.region [I 11 (.loadn 10) [T 1], J (.store 10) [T 2, T 11]])
 (.ret)))⟩
abbrev n_kern_Kernel_lend : Nat := 89
def c_kern_Kernel_lend_L0 : ACode :=
 .seq (.region [Bi 22 .lss (T 21) (T 20)])
 (.seq (.cond (T 22)
 (.skip)
 (.exit 0))
 (.seq (.block 1 (.seq (.region [I 23 (.indexs 6) [T 19, T 21], I 24 (.loadn 6) [T 23], I 10 (.alloc 168 6 (.vals [Zi, Zi, Zi, Zi, (.bool false), (.bool false)])) [], J (.store 6) [T 10, T 24]])
 (.seq (.seq (.region [Fa 25 5 10, Ld 26 25])
 (.cond (T 26)
 (.seq (.seq (.region [Mv 27 0, Mv 28 2, I 29 (.loadn 6) [T 10], Kc 30 [F 177, T 27, T 28, T 29], Mv 11 30])
 (.seq (.region [Mv 31 11, Bi 32 .neq (T 31) (N 0)])
 (.cond (T 32)
 (.seq (.region [Mv 33 11, Mv 8 33])
 (.ret))
 (.skip))))
 (.exit 1))
 (.skip)))
 (.seq (.seq (.draw [[⟨0, Mv 34 0, [], false⟩, ⟨1, Nc 35 34, [], false⟩, ⟨2, Fa 36 6 35, [], false⟩, ⟨3, Ld 37 36, [], false⟩, ⟨4, Fa 38 2 10, [], false⟩, ⟨5, Ld 39 38, [], false⟩, ⟨6, Fa 40 3 10, [], false⟩, ⟨7, Ld 41 40, [], false⟩, ⟨8, I 42 (.loadn 6) [T 10], [], false⟩, ⟨9, Kc 43 [F 176, T 42], [(3, Ld 37 36), (5, Ld 39 38), (7, Ld 41 40)], false⟩, ⟨10, Kc 44 [F 175, T 37, T 39, T 41, T 43], [], false⟩, ⟨11, Mv 12 44, [], false⟩]])
 (.seq (.region [Mv 45 12, Bi 46 .neq (T 45) (N 0)])
 (.cond (T 46)
 (.seq (.region [Mv 47 12, Mv 8 47])
 (.ret))
 (.skip))))
 (.seq (.region [Mv 48 1, Fa 49 0 10, Ld 50 49, Kc 51 [F 125, T 48, T 50], Mv 13 51])
 (.seq (.region [Mv 52 13, Nc 53 52, Fa 54 4 53, J (.store 1) [T 54, Tt]])
 (.seq (.region [Mv 55 2, Mv 56 13, Nc 57 56, I 58 (.loadn 6) [T 57], Kc 59 [F 96, T 55, T 58]])
 (.region [Mv 60 0, Mv 61 1, Fa 62 0 10, Ld 63 62, Fa 64 1 10, Ld 65 64, Kc 66 [F 99, T 60, T 61, T 63, T 65]]))))))))
 (.region [Bi 67 .add (T 21) (N 1), Mv 21 67])))
def c_kern_Kernel_lend : AFn := ⟨68, [.tmp 8], .seq (.region [I 7 (.box 94 10) [T 3], Mn 8 0])
 (.seq (.seq (.region [Mv 14 1, Fa 15 0 7, Ld 16 15, Fa 17 1 7, Ld 18 17, Kc 19 [F 167, T 14, T 16, T 18], I 20 .lens [T 19], Mn 21 0])
 (.block 0 (.loop c_kern_Kernel_lend_L0)))
 (.seq (.region [Mn 8 0])
 (.ret)))⟩
abbrev n_pmap_Map_Close : Nat := 90
def c_pmap_Map_Close_L1 : ACode :=
 .seq (.region [Bi 33 .lss (T 32) (N 512)])
 (.seq (.cond (T 33)
 (.skip)
 (.exit 2))
 (.seq (.block 3 (.seq (.region [Mv 34 32, Mv 7 34])
 (.seq (.region [Mv 36 0, Mv 37 5, Mv 38 7, Kc 39 [F 179, T 36, T 37, T 38], Mv 35 39, Xt 40 0 35, Xt 41 1 35, Mv 8 40, Mv 9 41])
 (.seq (.region [Mv 42 9])
 (.cond (T 42)
 (.region [Mv 43 0, Mv 44 5, Mv 45 7, Kc 46 [F 180, T 43, T 44, T 45]])
 (.skip))))))
 (.region [Bi 47 .add (T 32) (N 1), Mv 32 47])))
def c_pmap_Map_Close_L0 : ACode :=
 .seq (.region [Bi 18 .lss (T 17) (N 512)])
 (.seq (.cond (T 18)
 (.skip)
 (.exit 0))
 (.seq (.block 1 (.seq (.region [Mv 19 17, Mv 4 19])
 (.seq (.region [Mv 21 0, Mv 22 0, Nc 23 22, Fa 24 3 23, Ld 25 24, Mv 26 4, Kc 27 [F 179, T 21, T 25, T 26], Mv 20 27, Xt 28 0 20, Xt 29 1 20, Mv 5 28, Mv 6 29])
 (.seq (.seq (.region [Mv 30 6, I 31 (.un .not) [T 30]])
 (.cond (T 31)
 (.exit 1)
 (.skip)))
 (.seq (.seq (.region [Mn 32 0])
 (.block 2 (.loop c_pmap_Map_Close_L1)))
 (.region [Mv 48 0, Mv 49 0, Nc 50 49, Fa 51 3 50, Ld 52 51, Mv 53 4, Kc 54 [F 180, T 48, T 52, T 53]]))))))
 (.region [Bi 55 .add (T 17) (N 1), Mv 17 55])))
def c_pmap_Map_Close : AFn := ⟨69, [.tmp 2], .seq (.region [Mn 2 0])
 (.seq (.seq (.region [Mv 10 0, Kc 11 [F 178, T 10], I 12 (.un .not) [T 11]])
 (.cond (T 12)
 (.seq (.region [Mn 2 0])
 (.ret))
 (.skip)))
 (.seq (.region [Mv 13 0, Nc 14 13, Fa 15 4 14, Ld 16 15, Mv 3 16])
 (.seq (.seq (.region [Mn 17 0])
 (.block 0 (.loop c_pmap_Map_Close_L0)))
 (.seq (.draw [[⟨0, Mv 56 0, [], false⟩, ⟨1, Nc 57 56, [], false⟩, ⟨2, Fa 58 1 57, [], false⟩, ⟨3, Ld 59 58, [], false⟩, ⟨4, Mv 60 0, [], false⟩, ⟨5, Nc 61 60, [], false⟩, ⟨6, Fa 62 3 61, [], false⟩, ⟨7, Ld 63 62, [], false⟩, ⟨8, Kc 64 [F 117, T 59, T 63], [], false⟩]])
 (.seq (.region [Mv 65 0, I 66 (.build (.agg [.nilptr, .nilptr, Zi, Zi, Zi]) []) [], Nc 67 65, J (.store 5) [T 67, T 66]])
 (.seq (.region [Mv 68 3, Mv 2 68])
 (.ret)))))))⟩
abbrev n_tlb_Table_FlushAsid : Nat := 91
def c_tlb_Table_FlushAsid : AFn := ⟨8, [.tmp 4], .seq (.region [I 3 (.box 3 1) [T 1], Mn 4 0])
 (.seq (.region [Mv 5 0, I 6 (.mkfunc 182 0) [T 3], Kc 7 [F 181, T 5, T 6], Mv 4 7])
 (.ret))⟩
abbrev n_amap_Pool_Make : Nat := 93
def c_amap_Pool_Make : AFn := ⟨79, [.tmp 4, .tmp 5], .seq (.region [Mn 4 0, Mn 5 0])
 (.seq (.block 0 (.seq (.region [Mv 9 0, Kc 10 [F 184, T 9], I 11 (.un .not) [T 10], Mv 8 11])
 (.cond (T 8)
 (.seq (.region [Mn 4 0, Mn 5 1])
 (.ret))
 (.seq (.region [Mv 13 1, Bi 14 .lss (T 13) (N 1), Mv 15 14, Mw 16 1 15 false, IG 17 (.bin .gtr) [T 16, N 4096] 15 false, I 18 .pick [T 15, Tt, T 17], Mv 12 18])
 (.cond (T 12)
 (.seq (.region [Mn 4 0, Mn 5 2])
 (.ret))
 (.seq (.draw [[⟨0, Mv 20 0, [], false⟩, ⟨1, Nc 21 20, [], false⟩, ⟨2, Fa 22 3 21, [], false⟩, ⟨3, Ld 23 22, [], false⟩, ⟨4, Mv 24 0, [], false⟩, ⟨5, Nc 25 24, [], false⟩, ⟨6, Fa 26 0 25, [], false⟩, ⟨7, Ld 27 26, [], false⟩, ⟨8, Bi 28 .geq (T 23) (T 27), [], false⟩, ⟨9, Mv 19 28, [], false⟩]])
 (.cond (T 19)
 (.seq (.region [Mn 4 0, Mn 5 5])
 (.ret))
 (.skip))))))))
 (.seq (.draw [[⟨0, Mv 29 1, [], false⟩, ⟨2, Mv 31 1, [], false⟩, ⟨1, Kc 30 [F 185, T 29], [], false⟩, ⟨3, I 32 (.mkslice 3 1 8 (.vals [Zi])) [T 31, T 31], [], false⟩, ⟨4, I 33 (.build (.agg [.nilptr, .nilsl]) [(0, 1), (1, 1)]) [T 30, T 32], [], false⟩, ⟨5, I 34 (.box 250 2) [T 33], [], false⟩, ⟨6, Mv 6 34, [], false⟩],
[⟨0, Mv 29 1, [], false⟩, ⟨2, Mv 31 1, [], false⟩, ⟨3, I 32 (.mkslice 3 1 8 (.vals [Zi])) [T 31, T 31], [], false⟩, ⟨1, Kc 30 [F 185, T 29], [], false⟩, ⟨4, I 33 (.build (.agg [.nilptr, .nilsl]) [(0, 1), (1, 1)]) [T 30, T 32], [], false⟩, ⟨5, I 34 (.box 250 2) [T 33], [], false⟩, ⟨6, Mv 6 34, [], false⟩]])
 (.seq (.region [Mv 35 6, Nc 36 35, Fa 37 0 36, Ld 38 37, Mv 39 1, Kc 40 [F 186, T 38, N 0, T 39, N 1]])
 (.seq (.region [Mv 41 0, Nc 42 41, Fa 43 3 42, Ld 44 43, Bi 45 .add (T 44) (N 1), Nc 46 41, Fa 47 3 46, J (.store 1) [T 47, T 45]])
 (.seq (.seq (.region [Mv 48 0, Nc 49 48, Fa 50 2 49, Ld 51 50, Kc 52 [F 187, T 51, .lit .nilptr], Mv 7 52])
 (.seq (.region [Mv 53 7, Bi 54 .geq (T 53) (N 0)])
 (.cond (T 54)
 (.seq (.region [Mv 55 0, Nc 56 55, Fa 57 2 56, Ld 58 57, Mv 59 7, Mv 60 6, I 61 (.indexs 1) [T 58, T 59], J (.store 1) [T 61, T 60]])
 (.seq (.region [Mv 62 7, Bi 63 .add (T 62) (N 1), Mv 4 63, Mn 5 0])
 (.ret)))
 (.skip))))
 (.seq (.region [Mv 64 0, Mv 65 0, Nc 66 65, Fa 67 2 66, Ld 68 67, Mv 69 6, I 70 (.bslice 246 1 1 (.vals [.nilptr]) [0]) [T 69], I 71 (.append 246 1 8 (.vals [.nilptr])) [T 68, T 70], Nc 72 64, Fa 73 2 72, J (.store 1) [T 73, T 71]])
 (.seq (.region [Mv 74 0, Nc 75 74, Fa 76 2 75, Ld 77 76, I 78 .lens [T 77], Mv 4 78, Mn 5 0])
 (.ret))))))))⟩
abbrev n_kern_Kernel_shed : Nat := 95
def c_kern_Kernel_shed_L0 : ACode :=
 .seq (.region [Bi 25 .lss (T 24) (T 23)])
 (.seq (.cond (T 25)
 (.skip)
 (.exit 0))
 (.seq (.block 1 (.seq (.region [I 26 (.indexs 1) [T 22, T 24], Ld 27 26, Mv 7 27])
 (.region [Mv 28 0, Mv 29 7, Kc 30 [F 193, T 28, T 29]])))
 (.region [Bi 31 .add (T 24) (N 1), Mv 24 31])))
def c_kern_Kernel_shed : AFn := ⟨32, [], .seq (.region [I 3 (.box 168 6) [T 1]])
 (.seq (.draw [[⟨0, Mv 9 0, [], false⟩, ⟨1, Nc 10 9, [], false⟩, ⟨2, Fa 11 6 10, [], false⟩, ⟨3, Ld 12 11, [], false⟩, ⟨4, Fa 13 2 3, [], false⟩, ⟨5, Ld 14 13, [], false⟩, ⟨6, Fa 15 3 3, [], false⟩, ⟨7, Ld 16 15, [], false⟩, ⟨8, I 17 (.loadn 6) [T 3], [], false⟩, ⟨9, Kc 18 [F 176, T 17], [(3, Ld 12 11), (5, Ld 14 13), (7, Ld 16 15)], false⟩, ⟨10, Kc 19 [F 192, T 12, T 14, T 16, T 18], [], false⟩, ⟨11, Mv 8 19, [], false⟩, ⟨12, Xt 20 0 8, [], false⟩, ⟨13, Xt 21 1 8, [], false⟩, ⟨14, Mv 4 20, [], false⟩, ⟨15, Mv 5 21, [], false⟩]])
 (.seq (.region [Mv 22 4, I 23 .lens [T 22], Mn 24 0])
 (.block 0 (.loop c_kern_Kernel_shed_L0))))⟩
abbrev n_kern_proc_insert : Nat := 96
def c_kern_proc_insert : AFn := ⟨29, [], .seq (.region [I 3 (.box 168 6) [T 1]])
 (.seq (.region [Mv 5 0, Nc 6 5, Fa 7 3 6, Ld 8 7, I 9 (.mkfunc 195 0) [T 3], Kc 10 [F 194, T 8, T 9], Mv 4 10])
 (.seq (.seq (.region [Mv 11 4, Bi 12 .lss (T 11) (N 0)])
 (.cond (T 12)
 (.region [Mv 13 0, Nc 14 13, Fa 15 3 14, Ld 16 15, I 17 .lens [T 16], Mv 4 17])
 (.skip)))
 (.draw [[⟨0, Mv 18 0, [], false⟩, ⟨1, Mv 19 0, [], false⟩, ⟨2, Nc 20 19, [], false⟩, ⟨3, Fa 21 3 20, [], false⟩, ⟨4, Ld 22 21, [], false⟩, ⟨5, Mv 23 4, [], false⟩, ⟨6, I 24 (.loadn 6) [T 3], [], false⟩, ⟨7, I 25 (.bslice 168 6 1 (.vals [Zi, Zi, Zi, Zi, (.bool false), (.bool false)]) [0]) [T 24], [(4, Ld 22 21)], false⟩, ⟨8, Kc 26 [F 196, T 22, T 23, T 25], [], false⟩, ⟨9, Nc 27 18, [], false⟩, ⟨10, Fa 28 3 27, [], false⟩, ⟨11, J (.store 1) [T 28, T 26], [], false⟩]])))⟩
abbrev n_kern_Kernel_outs : Nat := 99
def c_kern_Kernel_outs_A0 : ACode :=
 .region [Mv 9 17]
def c_kern_Kernel_outs_B0 : ACode :=
 .block 1 (.seq (.region [Mv 19 9, Ld 20 6, Bi 21 .geq (T 19) (T 20), Mv 22 21, Mw 23 9 22 true, IG 24 .load1 [T 7] 22 true, IG 25 (.bin .lss) [T 23, T 24] 22 true, I 26 .pick [T 22, T 25, Tf]])
 (.cond (T 26)
 (.region [Ld 27 8, Mv 28 9, I 29 (.bslice 3 1 1 (.vals [Zi]) [0]) [T 28], I 30 (.append 3 1 8 (.vals [Zi])) [T 27, T 29], J (.store 1) [T 8, T 30]])
 (.skip)))
def c_kern_Kernel_outs_L1 : ACode :=
 .seq (.region [Bi 34 .lss (T 33) (T 32)])
 (.seq (.cond (T 34)
 (.skip)
 (.exit 2))
 (.seq (.block 3 (.seq (.region [I 35 (.indexs 1) [T 31, T 33], Ld 36 35, Mv 11 36])
 (.region [Mv 37 0, Mv 38 1, Mv 39 11, Kc 40 [F 200, T 37, T 38, T 39]])))
 (.region [Bi 41 .add (T 33) (N 1), Mv 33 41])))
def c_kern_Kernel_outs : AFn := ⟨42, [], .seq (.region [I 6 (.box 3 1) [T 2], I 7 (.box 3 1) [T 3]])
 (.seq (.region [I 8 (.alloc 34 1 (.vals [.nilsl])) []])
 (.seq (.seq (.region [Mv 12 1, Nc 13 12, Fa 14 2 13, Ld 15 14, Kc 16 [F 141, T 15]])
 (.block 0 (.rfun (T 16) [17, 18] c_kern_Kernel_outs_A0 c_kern_Kernel_outs_B0)))
 (.seq (.region [Ld 31 8, I 32 .lens [T 31], Mn 33 0])
 (.block 2 (.loop c_kern_Kernel_outs_L1)))))⟩
abbrev n_frames_Pool_made : Nat := 103
def c_frames_Pool_made : AFn := ⟨13, [.tmp 2], .seq (.region [I 2 .mv [Tf]])
 (.seq (.region [Mv 3 0, I 4 (.eqv true .ptr) [T 3, .lit .nilptr], Mv 5 4, Mw 6 0 5 true, IG 7 .nilCheck [T 6] 5 true, IG 8 (.fieldAddr 0) [T 7] 5 true, IG 9 .load1 [T 8] 5 true, IG 10 .lens [T 9] 5 true, IG 11 (.bin .gtr) [T 10, N 0] 5 true, I 12 .pick [T 5, T 11, Tf], Mv 2 12])
 (.ret))⟩
abbrev n_kern_Kernel_wired : Nat := 104
def c_kern_Kernel_wired_L2 : ACode :=
 .seq (.seq (.region [Fa 31 9 8, Ld 32 31, Mv 33 32, Mw 34 9 33 true, IG 35 (.fieldAddr 1) [T 8] 33 true, IG 36 .load1 [T 35] 33 true, IG 37 (.bin .lss) [T 34, T 36] 33 true, I 38 .pick [T 33, T 37, Tf]])
 (.cond (T 38)
 (.skip)
 (.exit 4)))
 (.seq (.block 5 (.seq (.region [Mv 41 0, Mv 42 6, I 43 (.loadn 10) [T 8], Mv 44 9, I 45 (.loadn 5) [T 3], Kc 46 [F 207, T 41, T 42, T 43, T 44, T 45]])
 (.cond (T 46)
 (.seq (.region [I 4 .mv [Tt]])
 (.ret))
 (.skip))))
 (.region [Mv 39 9, Bi 40 .add (T 39) (N 1), Mv 9 40]))
def c_kern_Kernel_wired_L1 : ACode :=
 .seq (.region [Bi 26 .lss (T 25) (T 24)])
 (.seq (.cond (T 26)
 (.skip)
 (.exit 2))
 (.seq (.block 3 (.seq (.region [I 27 (.indexs 10) [T 23, T 25], I 28 (.loadn 10) [T 27], I 8 (.alloc 94 10 (.vals [Zi, Zi, Zi, Zi, (.bool false), Zi, Zi, Zi, Zi, (.bool false)])) [], J (.store 10) [T 8, T 28]])
 (.seq (.region [Fa 29 0 8, Ld 30 29, Mv 9 30])
 (.block 4 (.loop c_kern_Kernel_wired_L2)))))
 (.region [Bi 47 .add (T 25) (N 1), Mv 25 47])))
def c_kern_Kernel_wired_L0 : ACode :=
 .seq (.region [I 15 (.next) [T 14], Xt 16 0 15])
 (.seq (.cond (T 16)
 (.skip)
 (.exit 0))
 (.block 1 (.seq (.region [I 17 (.entry) [T 14], Xt 18 1 17, Mv 6 18])
 (.seq (.region [Mv 19 6, Nc 20 19, Fa 21 1 20, Ld 22 21, Kc 23 [F 86, T 22], I 24 .lens [T 23], Mn 25 0])
 (.block 2 (.loop c_kern_Kernel_wired_L1))))))
def c_kern_Kernel_wired : AFn := ⟨48, [.tmp 4], .seq (.region [I 3 (.box 80 5) [T 1], I 4 .mv [Tf]])
 (.seq (.seq (.region [Mv 10 0, Nc 11 10, Fa 12 9 11, Ld 13 12, I 14 (.range) [T 13]])
 (.block 0 (.loop c_kern_Kernel_wired_L0)))
 (.seq (.region [I 4 .mv [Tf]])
 (.ret)))⟩
abbrev n_phys_Memory_Page : Nat := 108
def c_phys_Memory_Page : AFn := ⟨15, [.tmp 4], .seq (.region [I 4 .mv [.lit .nilsl]])
 (.seq (.region [Mv 6 0, Mv 7 1, Kc 8 [F 159, T 6, T 7], Mv 5 8])
 (.seq (.seq (.region [Mv 9 5, I 10 (.eqv false .ptr) [T 9, .lit .nilptr]])
 (.cond (T 10)
 (.seq (.region [I 4 .mv [.lit .nilsl]])
 (.ret))
 (.skip)))
 (.seq (.region [Mv 11 5, Nc 12 11, I 13 (.slicea 4096 1 false false false) [T 12], I 14 (.append 5 1 1 (.bytes 1 0)) [.lit .nilsl, T 13], Mv 4 14])
 (.ret))))⟩
abbrev n_kern_Kernel_leave : Nat := 109
def c_kern_Kernel_leave : AFn := ⟨33, [], .seq (.region [Mv 6 0, Mv 7 1, Kc 8 [F 116, T 6, T 7]])
 (.seq (.region [Mv 10 0, Nc 11 10, Fa 12 1 11, Ld 13 12, Mv 14 1, Kc 15 [F 45, T 13, T 14], Mv 9 15, Xt 16 0 9, Xt 17 1 9, I 4 (.alloc 80 5 (.vals [Zi, Zi, Zi, Zi, Zi])) [], J (.store 5) [T 4, T 16], Mv 5 17])
 (.seq (.region [Fa 18 4 4, Ld 19 18, Bi 20 .gtr (T 19) (N 0)])
 (.cond (T 20)
 (.region [Mv 21 0, Nc 22 21, Fa 23 1 22, Ld 24 23, Mv 25 1, Kc 26 [F 191, T 24, T 25, N 4, N 0, N 0]])
 (.region [Mv 27 0, Nc 28 27, Fa 29 1 28, Ld 30 29, Mv 31 1, Kc 32 [F 117, T 30, T 31]]))))⟩
abbrev n_kern_Kernel_stow : Nat := 111
def c_kern_Kernel_stow_L0 : ACode :=
 .block 1 (.seq (.region [Mv 10 0, Nc 11 10, Fa 12 3 11, Ld 13 12, Kc 14 [F 211, T 13], Mv 9 14, Xt 15 0 9, Xt 16 1 9, Mv 7 15, Mv 8 16])
 (.seq (.seq (.region [Mv 17 8, I 18 (.un .not) [T 17]])
 (.cond (T 18)
 (.seq (.region [Mv 19 6, Mn 4 (-1), Mv 5 19])
 (.ret))
 (.skip)))
 (.seq (.seq (.draw [[⟨0, Mv 20 0, [], false⟩, ⟨1, Nc 21 20, [], false⟩, ⟨2, Fa 22 2 21, [], false⟩, ⟨3, Ld 23 22, [], false⟩, ⟨4, Mv 24 7, [], false⟩, ⟨5, Mv 25 0, [], false⟩, ⟨6, Nc 26 25, [], false⟩, ⟨7, Fa 27 0 26, [], false⟩, ⟨8, Ld 28 27, [], false⟩, ⟨9, Mv 29 1, [], false⟩, ⟨10, Kc 30 [F 108, T 28, T 29], [(3, Ld 23 22)], false⟩, ⟨11, Kc 31 [F 212, T 23, T 24, T 30], [], false⟩, ⟨12, Mv 6 31, [], false⟩]])
 (.seq (.region [Mv 32 6, Bi 33 .eql (T 32) (N 0)])
 (.cond (T 33)
 (.seq (.region [Mv 34 7, Mv 4 34, Mn 5 0])
 (.ret))
 (.skip))))
 (.region [Mv 35 0, Nc 36 35, Fa 37 3 36, Ld 38 37, Mv 39 7, Kc 40 [F 213, T 38, T 39]]))))
def c_kern_Kernel_stow : AFn := ⟨41, [.tmp 4, .tmp 5], .seq (.region [Mn 4 0, Mn 5 0])
 (.seq (.region [Mn 6 5])
 (.block 0 (.loop c_kern_Kernel_stow_L0)))⟩
abbrev n_anon_Pool_Put : Nat := 113
def c_anon_Pool_Put : AFn := ⟨19, [.tmp 8], .seq (.region [I 6 (.box 3 1) [T 2], I 7 (.box 3 1) [T 3], Mn 8 0])
 (.seq (.region [Mv 12 0, Mv 13 1, I 14 (.mkfunc 216 0) [T 6, T 7], Kc 15 [F 215, T 12, T 13, T 14], Mv 11 15, Xt 16 0 11, Xt 17 1 11, I 9 (.alloc 103 3 (.vals [Zi, Zi, Zi])) [], J (.store 3) [T 9, T 16], Mv 10 17])
 (.seq (.region [Mv 18 10, Mv 8 18])
 (.ret)))⟩
abbrev n_kern_Kernel_alone : Nat := 116
def c_kern_Kernel_alone_A1 : ACode :=
 .seq (.region [Mv 8 30])
 (.region [I 9 (.alloc 204 2 (.vals [Zi, Zi])) [], J (.store 2) [T 9, T 31]])
def c_kern_Kernel_alone_B1 : ACode :=
 .block 3 (.seq (.region [Fa 32 1 9, Ld 33 32, Ld 34 3, Bi 35 .eql (T 33) (T 34)])
 (.cond (T 35)
 (.region [Ld 36 7, Mv 37 8, I 38 (.bslice 3 1 1 (.vals [Zi]) [0]) [T 37], I 39 (.append 3 1 8 (.vals [Zi])) [T 36, T 38], J (.store 1) [T 7, T 39]])
 (.skip)))
def c_kern_Kernel_alone_L2 : ACode :=
 .seq (.region [Bi 43 .lss (T 42) (T 41)])
 (.seq (.cond (T 43)
 (.skip)
 (.exit 4))
 (.seq (.block 5 (.seq (.region [I 44 (.indexs 1) [T 40, T 42], Ld 45 44, Mv 11 45])
 (.region [Mv 46 0, Mv 47 6, Mv 48 11, Kc 49 [F 200, T 46, T 47, T 48]])))
 (.region [Bi 50 .add (T 42) (N 1), Mv 42 50])))
def c_kern_Kernel_alone_L0 : ACode :=
 .seq (.region [Bi 16 .lss (T 15) (T 14)])
 (.seq (.cond (T 16)
 (.skip)
 (.exit 0))
 (.seq (.block 1 (.seq (.region [I 17 (.indexs 1) [T 13, T 15], Ld 18 17, Mv 5 18])
 (.seq (.region [Mv 19 0, Nc 20 19, Fa 21 9 20, Ld 22 21, Mv 23 5, I 24 (.lookup (.scal .int) .nilptr false) [T 22, T 23], Mv 6 24])
 (.seq (.region [I 7 (.alloc 34 1 (.vals [.nilsl])) []])
 (.seq (.seq (.region [Mv 25 6, Nc 26 25, Fa 27 2 26, Ld 28 27, Kc 29 [F 141, T 28]])
 (.block 2 (.rfun (T 29) [30, 31] c_kern_Kernel_alone_A1 c_kern_Kernel_alone_B1)))
 (.seq (.region [Ld 40 7, I 41 .lens [T 40], Mn 42 0])
 (.block 4 (.loop c_kern_Kernel_alone_L2))))))))
 (.region [Bi 51 .add (T 15) (N 1), Mv 15 51])))
def c_kern_Kernel_alone : AFn := ⟨52, [], .seq (.region [I 3 (.box 3 1) [T 1]])
 (.seq (.region [Mv 12 0, Kc 13 [F 140, T 12], I 14 .lens [T 13], Mn 15 0])
 (.block 0 (.loop c_kern_Kernel_alone_L0)))⟩
abbrev n_frames_Pool_Give : Nat := 117
def c_frames_Pool_Give : AFn := ⟨8, [.tmp 4], .seq (.region [Mn 4 0])
 (.seq (.region [Mv 5 0, Mv 6 1, Kc 7 [F 217, T 5, T 6, F 220], Mv 4 7])
 (.ret))⟩
abbrev n_slices_Collect_int : Nat := 118
def c_slices_Collect_int : AFn := ⟨5, [.tmp 2], .seq (.region [I 2 .mv [.lit .nilsl]])
 (.seq (.region [Mv 3 0, Kc 4 [F 221, .lit .nilsl, T 3], Mv 2 4])
 (.ret))⟩
abbrev n_slices_Sort_int_int : Nat := 119
def c_slices_Sort_int_int : AFn := ⟨11, [], .seq (.region [Mv 3 0, I 4 .lens [T 3], Mv 2 4])
 (.region [Mv 5 0, Mv 6 2, Mv 7 2, I 8 (.conv .u64) [T 7], Kc 9 [F 223, T 8], Kc 10 [F 222, T 5, N 0, T 6, T 9]])⟩
abbrev n_frames_Pool_Count : Nat := 121
def c_frames_Pool_Count_L0 : ACode :=
 .seq (.region [Bi 17 .lss (T 16) (T 15)])
 (.seq (.cond (T 17)
 (.skip)
 (.exit 0))
 (.seq (.block 1 (.seq (.region [I 18 (.indexs 5) [T 14, T 16], I 19 (.loadn 5) [T 18], I 7 (.alloc 80 5 (.vals [Zi, Zi, Zi, Zi, Zi])) [], J (.store 5) [T 7, T 19]])
 (.seq (.region [Fa 20 0 7, Ld 21 20, Mv 22 1, Bi 23 .eql (T 21) (T 22)])
 (.cond (T 23)
 (.region [Mv 24 5, Bi 25 .add (T 24) (N 1), Mv 5 25])
 (.skip)))))
 (.region [Bi 26 .add (T 16) (N 1), Mv 16 26])))
def c_frames_Pool_Count : AFn := ⟨28, [.tmp 4], .seq (.region [Mn 4 0])
 (.seq (.seq (.region [Mv 8 0, Kc 9 [F 103, T 8], I 10 (.un .not) [T 9]])
 (.cond (T 10)
 (.seq (.region [Mn 4 0])
 (.ret))
 (.skip)))
 (.seq (.region [Mn 5 0])
 (.seq (.seq (.region [Mv 11 0, Nc 12 11, Fa 13 0 12, Ld 14 13, I 15 .lens [T 14], Mn 16 0])
 (.block 0 (.loop c_frames_Pool_Count_L0)))
 (.seq (.region [Mv 27 5, Mv 4 27])
 (.ret)))))⟩
abbrev n_vmap_Map_made : Nat := 122
def c_vmap_Map_made : AFn := ⟨11, [.tmp 2], .seq (.region [I 2 .mv [Tf]])
 (.seq (.region [Mv 3 0, I 4 (.eqv true .ptr) [T 3, .lit .nilptr], Mv 5 4, Mw 6 0 5 true, IG 7 .nilCheck [T 6] 5 true, IG 8 (.fieldAddr 1) [T 7] 5 true, IG 9 .load1 [T 8] 5 true, I 10 .pick [T 5, T 9, Tf], Mv 2 10])
 (.ret))⟩
abbrev n_entry_Find : Nat := 123
def c_entry_Find : AFn := ⟨28, [.tmp 4, .tmp 5], .seq (.region [Mn 4 0, I 5 .mv [Tf]])
 (.seq (.region [Mv 9 0, Mv 10 1, Kc 11 [F 224, T 9, T 10, F 225], Mv 8 11, Xt 12 0 8, Xt 13 1 8, Mv 6 12, Mv 7 13])
 (.seq (.draw [[⟨0, Mv 14 6, [], false⟩, ⟨1, Mv 15 6, [], false⟩, ⟨2, Mv 16 0, [], false⟩, ⟨3, I 17 .lens [T 16], [], false⟩, ⟨4, Bi 18 .lss (T 15) (T 17), [], false⟩, ⟨5, Mv 19 18, [], false⟩, ⟨6, Mw 20 0 19 true, [], false⟩, ⟨7, Mw 21 6 19 true, [], false⟩, ⟨8, IG 22 (.indexs 10) [T 20, T 21] 19 true, [], false⟩, ⟨9, IG 23 (.fieldAddr 0) [T 22] 19 true, [], false⟩, ⟨10, IG 24 .load1 [T 23] 19 true, [], false⟩, ⟨11, Mw 25 1 19 true, [], false⟩, ⟨12, IG 26 (.bin .leq) [T 24, T 25] 19 true, [], false⟩, ⟨13, I 27 .pick [T 19, T 26, Tf], [], false⟩, ⟨14, Mv 4 14, [], false⟩, ⟨15, Mv 5 27, [], false⟩]])
 (.ret)))⟩
abbrev n_anon_Pool_made : Nat := 124
def c_anon_Pool_made : AFn := ⟨11, [.tmp 2], .seq (.region [I 2 .mv [Tf]])
 (.seq (.region [Mv 3 0, I 4 (.eqv true .ptr) [T 3, .lit .nilptr], Mv 5 4, Mw 6 0 5 true, IG 7 .nilCheck [T 6] 5 true, IG 8 (.fieldAddr 1) [T 7] 5 true, IG 9 .load1 [T 8] 5 true, I 10 .pick [T 5, T 9, Tf], Mv 2 10])
 (.ret))⟩
abbrev n_kern_proc_at : Nat := 125
def c_kern_proc_at : AFn := ⟨20, [.tmp 4], .seq (.region [I 3 (.box 3 1) [T 1], I 4 .mv [.lit .nilptr]])
 (.seq (.region [Mv 6 0, Nc 7 6, Fa 8 3 7, Ld 9 8, I 10 (.mkfunc 226 0) [T 3], Kc 11 [F 194, T 9, T 10], Mv 5 11])
 (.seq (.seq (.region [Mv 12 5, Bi 13 .lss (T 12) (N 0)])
 (.cond (T 13)
 (.seq (.region [I 4 .mv [.lit .nilptr]])
 (.ret))
 (.skip)))
 (.seq (.region [Mv 14 0, Nc 15 14, Fa 16 3 15, Ld 17 16, Mv 18 5, I 19 (.indexs 6) [T 17, T 18], Mv 4 19])
 (.ret))))⟩
abbrev n_amap_Pool_Get : Nat := 126
def c_amap_Pool_Get : AFn := ⟨25, [.tmp 6], .seq (.region [Mn 6 0])
 (.seq (.seq (.region [Mv 7 2, Bi 8 .lss (T 7) (N 0), Mv 9 8, Mw 10 2 9 false, Mw 11 0 9 false, Mw 12 1 9 false, IG 13 .callv [F 227, T 11, T 12] 9 false, IG 14 (.bin .geq) [T 10, T 13] 9 false, I 15 .pick [T 9, Tt, T 14]])
 (.cond (T 15)
 (.seq (.region [Mn 6 0])
 (.ret))
 (.skip)))
 (.seq (.region [Mv 16 0, Mv 17 1, Kc 18 [F 228, T 16, T 17], Nc 19 18, Fa 20 1 19, Ld 21 20, Mv 22 2, I 23 (.indexs 1) [T 21, T 22], Ld 24 23, Mv 6 24])
 (.ret)))⟩
abbrev n_swap_Device_Peek : Nat := 127
def c_swap_Device_Peek : AFn := ⟨17, [.tmp 4], .seq (.region [I 4 .mv [.lit .nilsl]])
 (.seq (.seq (.region [Mv 6 0, Mv 7 1, Kc 8 [F 229, T 6, T 7, Tt], Bi 9 .neq (T 8) (N 0)])
 (.cond (T 9)
 (.seq (.region [I 4 .mv [.lit .nilsl]])
 (.ret))
 (.skip)))
 (.seq (.region [Mv 10 0, Nc 11 10, Fa 12 2 11, Ld 13 12, Mv 14 1, I 15 (.lookup (.scal .int) (.bytes 4096 0) false) [T 13, T 14], I 5 (.alloc 285 4096 (.bytes 4096 0)) [], J (.store 4096) [T 5, T 15]])
 (.seq (.region [I 16 (.slicea 4096 1 false false false) [T 5], Mv 4 16])
 (.ret))))⟩
abbrev n_file_Store_Size : Nat := 128
def c_file_Store_Size : AFn := ⟨30, [.tmp 4, .tmp 5], .seq (.region [Mn 4 0, I 5 .mv [Tf]])
 (.seq (.seq (.region [Mv 6 0, Kc 7 [F 68, T 6], I 8 (.un .not) [T 7], Mv 9 8, Mw 10 1 9 false, IG 11 (.bin .lss) [T 10, N 1] 9 false, I 12 .pick [T 9, Tt, T 11], Mv 13 12, Mw 14 1 13 false, Mw 15 0 13 false, IG 16 .nilCheck [T 15] 13 false, IG 17 (.fieldAddr 1) [T 16] 13 false, IG 18 .load1 [T 17] 13 false, IG 19 .lens [T 18] 13 false, IG 20 (.bin .gtr) [T 14, T 19] 13 false, I 21 .pick [T 13, Tt, T 20]])
 (.cond (T 21)
 (.seq (.region [Mn 4 0, I 5 .mv [Tf]])
 (.ret))
 (.skip)))
 (.seq (.region [Mv 22 0, Nc 23 22, Fa 24 1 23, Ld 25 24, Mv 26 1, Bi 27 .sub (T 26) (N 1), I 28 (.indexs 1) [T 25, T 27], Ld 29 28, Mv 4 29, I 5 .mv [Tt]])
 (.ret)))⟩
abbrev n_kern_Kernel_Procs : Nat := 140
def c_kern_Kernel_Procs : AFn := ⟨12, [.tmp 2], .seq (.region [I 2 .mv [.lit .nilsl]])
 (.seq (.seq (.region [Mv 3 0, Kc 4 [F 35, T 3], I 5 (.un .not) [T 4]])
 (.cond (T 5)
 (.seq (.region [I 2 .mv [.lit .nilsl]])
 (.ret))
 (.skip)))
 (.seq (.region [Mv 6 0, Nc 7 6, Fa 8 9 7, Ld 9 8, Kc 10 [F 238, T 9], Kc 11 [F 51, T 10], Mv 2 11])
 (.ret)))⟩
abbrev n_pmap_Map_All : Nat := 141
def c_pmap_Map_All : AFn := ⟨4, [.tmp 2], .seq (.region [I 1 (.box 97 1) [T 0], I 2 .mv [.lit .nilfunc]])
 (.seq (.region [I 3 (.mkfunc 239 0) [T 1], Mv 2 3])
 (.ret))⟩
abbrev n_tlb_Table_Flush : Nat := 143
def c_tlb_Table_Flush : AFn := ⟨9, [.tmp 4], .seq (.region [I 3 (.box 207 2) [T 1], I 4 .mv [Tf]])
 (.seq (.region [Mv 5 0, I 6 (.mkfunc 243 0) [T 3], Kc 7 [F 181, T 5, T 6], Bi 8 .gtr (T 7) (N 0), Mv 4 8])
 (.ret))⟩
abbrev n_slices_IndexFunc_int_int : Nat := 144
def c_slices_IndexFunc_int_int_L0 : ACode :=
 .seq (.region [Bi 9 .lss (T 8) (T 7)])
 (.seq (.cond (T 9)
 (.skip)
 (.exit 0))
 (.seq (.block 1 (.seq (.region [Mv 10 8, Mv 5 10])
 (.seq (.region [Mv 11 1, Mv 12 0, Mv 13 5, I 14 (.indexs 1) [T 12, T 13], Ld 15 14, Kc 16 [T 11, T 15]])
 (.cond (T 16)
 (.seq (.region [Mv 17 5, Mv 4 17])
 (.ret))
 (.skip)))))
 (.region [Bi 18 .add (T 8) (N 1), Mv 8 18])))
def c_slices_IndexFunc_int_int : AFn := ⟨19, [.tmp 4], .seq (.region [Mn 4 0])
 (.seq (.seq (.region [Mv 6 0, I 7 .lens [T 6], Mn 8 0])
 (.block 0 (.loop c_slices_IndexFunc_int_int_L0)))
 (.seq (.region [Mn 4 (-1)])
 (.ret)))⟩
abbrev n_frames_Pool_Take : Nat := 145
def c_frames_Pool_Take : AFn := ⟨49, [.tmp 8, .tmp 9], .seq (.region [Mn 8 0, Mn 9 0])
 (.seq (.seq (.region [Mv 12 0, Kc 13 [F 103, T 12], I 14 (.un .not) [T 13]])
 (.cond (T 14)
 (.seq (.region [Mn 8 0, Mn 9 1])
 (.ret))
 (.skip)))
 (.seq (.seq (.region [Mv 15 1, Bi 16 .lss (T 15) (N 1), Mv 17 16, Mw 18 1 17 false, IG 19 (.bin .gtr) [T 18, N 4] 17 false, I 20 .pick [T 17, Tt, T 19]])
 (.cond (T 20)
 (.seq (.region [Mn 8 0, Mn 9 2])
 (.ret))
 (.skip)))
 (.seq (.region [Mv 21 0, Nc 22 21, Fa 23 1 22, Ld 24 23, Mv 10 24])
 (.seq (.seq (.region [Mv 25 1, Bi 26 .eql (T 25) (N 1)])
 (.cond (T 26)
 (.region [Mn 10 0])
 (.skip)))
 (.seq (.seq (.region [Mv 27 0, Kc 28 [F 53, T 27], Mv 29 10, Bi 30 .leq (T 28) (T 29)])
 (.cond (T 30)
 (.seq (.region [Mn 8 0, Mn 9 5])
 (.ret))
 (.skip)))
 (.seq (.region [Mv 31 0, Nc 32 31, Fa 33 0 32, Ld 34 33, Kc 35 [F 244, T 34, F 245], Mv 11 35])
 (.seq (.seq (.region [Mv 36 11, Bi 37 .lss (T 36) (N 0)])
 (.cond (T 37)
 (.seq (.region [Mn 8 0, Mn 9 5])
 (.ret))
 (.skip)))
 (.seq (.region [Mv 38 0, Nc 39 38, Fa 40 0 39, Ld 41 40, Mv 42 11, Mv 43 1, Mv 44 2, Mv 45 3, I 46 (.build (.agg [Zi, Zi, Zi, Zi, Zi]) [(0, 1), (1, 1), (2, 1)]) [T 43, T 44, T 45], I 47 (.indexs 5) [T 41, T 42], J (.store 5) [T 47, T 46]])
 (.seq (.region [Mv 48 11, Mv 8 48, Mn 9 0])
 (.ret))))))))))⟩
abbrev n_phys_Memory_Zero : Nat := 146
def c_phys_Memory_Zero : AFn := ⟨8, [.tmp 4], .seq (.region [I 4 .mv [Tf]])
 (.seq (.region [Mv 5 0, Mv 6 1, Kc 7 [F 158, T 5, T 6, .lit .nilsl], Mv 4 7])
 (.ret))⟩
abbrev n_object_Pool_Ids : Nat := 151
def c_object_Pool_Ids : AFn := ⟨12, [.tmp 2], .seq (.region [I 2 .mv [.lit .nilsl]])
 (.seq (.seq (.region [Mv 3 0, Kc 4 [F 214, T 3], I 5 (.un .not) [T 4]])
 (.cond (T 5)
 (.seq (.region [I 2 .mv [.lit .nilsl]])
 (.ret))
 (.skip)))
 (.seq (.region [Mv 6 0, Nc 7 6, Fa 8 2 7, Ld 9 8, Kc 10 [F 248, T 9], Kc 11 [F 51, T 10], Mv 2 11])
 (.ret)))⟩
abbrev n_kern_Kernel_take : Nat := 156
def c_kern_Kernel_take : AFn := ⟨20, [.tmp 8, .tmp 9], .seq (.region [Mn 8 0, Mn 9 0])
 (.seq (.region [Mv 10 0, Nc 11 10, Fa 12 1 11, Ld 13 12, Mv 14 1, Mv 15 2, Mv 16 3, Kc 17 [F 145, T 13, T 14, T 15, T 16], Xt 18 0 17, Xt 19 1 17, Mv 8 18, Mv 9 19])
 (.ret))⟩
abbrev n_phys_Memory_Fill : Nat := 158
def c_phys_Memory_Fill : AFn := ⟨20, [.tmp 6], .seq (.region [I 6 .mv [Tf]])
 (.seq (.region [Mv 9 0, Mv 10 1, Kc 11 [F 159, T 9, T 10], Mv 7 11])
 (.seq (.seq (.region [Mv 12 7, I 13 (.eqv false .ptr) [T 12, .lit .nilptr]])
 (.cond (T 13)
 (.seq (.region [I 6 .mv [Tf]])
 (.ret))
 (.skip)))
 (.seq (.region [I 8 (.alloc 302 4096 (.bytes 4096 0)) []])
 (.seq (.region [I 14 (.slicea 4096 1 false false false) [T 8], Mv 15 2, I 16 (.copy 1) [T 14, T 15]])
 (.seq (.region [Mv 17 7, I 18 (.loadn 4096) [T 8], Nc 19 17, J (.store 4096) [T 19, T 18]])
 (.seq (.region [I 6 .mv [Tt]])
 (.ret)))))))⟩
abbrev n_phys_Memory_at : Nat := 159
def c_phys_Memory_at : AFn := ⟨19, [.tmp 4], .seq (.region [I 4 .mv [.lit .nilptr]])
 (.seq (.seq (.region [Mv 5 1, Bi 6 .lss (T 5) (N 0), Mv 7 6, Mw 8 1 7 false, Mw 9 0 7 false, IG 10 .callv [F 44, T 9] 7 false, IG 11 (.bin .geq) [T 8, T 10] 7 false, I 12 .pick [T 7, Tt, T 11]])
 (.cond (T 12)
 (.seq (.region [I 4 .mv [.lit .nilptr]])
 (.ret))
 (.skip)))
 (.seq (.region [Mv 13 0, Nc 14 13, Fa 15 0 14, Ld 16 15, Mv 17 1, I 18 (.indexs 4096) [T 16, T 17], Mv 4 18])
 (.ret)))⟩
abbrev n_phys_Memory_Copy : Nat := 160
def c_phys_Memory_Copy : AFn := ⟨26, [.tmp 6], .seq (.region [I 6 .mv [Tf]])
 (.seq (.region [Mv 9 0, Mv 10 1, Kc 11 [F 159, T 9, T 10], Mv 12 0, Mv 13 2, Kc 14 [F 159, T 12, T 13], Mv 7 11, Mv 8 14])
 (.seq (.seq (.region [Mv 15 7, I 16 (.eqv false .ptr) [T 15, .lit .nilptr], Mv 17 16, Mw 18 8 17 false, IG 19 (.eqv false .ptr) [T 18, .lit .nilptr] 17 false, I 20 .pick [T 17, Tt, T 19]])
 (.cond (T 20)
 (.seq (.region [I 6 .mv [Tf]])
 (.ret))
 (.skip)))
 (.seq (.region [Mv 21 7, Mv 22 8, Nc 23 22, I 24 (.loadn 4096) [T 23], Nc 25 21, J (.store 4096) [T 25, T 24]])
 (.seq (.region [I 6 .mv [Tt]])
 (.ret)))))⟩
abbrev n_entry_Good : Nat := 161
def c_entry_Good : AFn := ⟨84, [.tmp 2], .seq (.region [I 1 (.box 94 10) [T 0], I 2 .mv [Tf]])
 (.seq (.block 0 (.seq (.region [Fa 4 0 1, Ld 5 4, Bi 6 .lss (T 5) (N 0), Mv 7 6, IG 8 (.fieldAddr 1) [T 1] 7 false, IG 9 .load1 [T 8] 7 false, IG 10 (.fieldAddr 0) [T 1] 7 false, IG 11 .load1 [T 10] 7 false, IG 12 (.bin .leq) [T 9, T 11] 7 false, I 13 .pick [T 7, Tt, T 12], Mv 14 13, IG 15 (.fieldAddr 1) [T 1] 14 false, IG 16 .load1 [T 15] 14 false, IG 17 (.bin .gtr) [T 16, N 67108864] 14 false, I 18 .pick [T 14, Tt, T 17], Mv 3 18])
 (.cond (T 3)
 (.seq (.region [I 2 .mv [Tf]])
 (.ret))
 (.seq (.region [Fa 20 2 1, Ld 21 20, Bi 22 .lss (T 21) (N 0), Mv 23 22, IG 24 (.fieldAddr 3) [T 1] 23 false, IG 25 .load1 [T 24] 23 false, IG 26 (.bin .lss) [T 25, N 0] 23 false, I 27 .pick [T 23, Tt, T 26], Mv 28 27, IG 29 (.fieldAddr 2) [T 1] 28 false, IG 30 .load1 [T 29] 28 false, IG 31 (.bin .eql) [T 30, N 0] 28 false, Mw 32 31 28 false, IG 33 (.fieldAddr 3) [T 1] 32 true, IG 34 .load1 [T 33] 32 true, IG 35 (.bin .gtr) [T 34, N 0] 32 true, IG 36 .pick [T 32, T 35, Tf] 28 false, I 37 .pick [T 28, Tt, T 36], Mv 19 37])
 (.cond (T 19)
 (.seq (.region [I 2 .mv [Tf]])
 (.ret))
 (.seq (.region [Fa 39 2 1, Ld 40 39, Bi 41 .gtr (T 40) (N 0), Mv 42 41, IG 43 (.fieldAddr 3) [T 1] 42 true, IG 44 .load1 [T 43] 42 true, IG 45 (.fieldAddr 1) [T 1] 42 true, IG 46 .load1 [T 45] 42 true, IG 47 (.fieldAddr 0) [T 1] 42 true, IG 48 .load1 [T 47] 42 true, IG 49 (.bin .sub) [T 46, T 48] 42 true, IG 50 (.bin .sub) [N 4096, T 49] 42 true, IG 51 (.bin .gtr) [T 44, T 50] 42 true, I 52 .pick [T 42, T 51, Tf], Mv 38 52])
 (.cond (T 38)
 (.seq (.region [I 2 .mv [Tf]])
 (.ret))
 (.seq (.region [Fa 54 6 1, Ld 55 54, Bi 56 .andNot (T 55) (N 7), Bi 57 .neq (T 56) (N 0), Mv 58 57, IG 59 (.fieldAddr 5) [T 1] 58 false, IG 60 .load1 [T 59] 58 false, IG 61 (.fieldAddr 6) [T 1] 58 false, IG 62 .load1 [T 61] 58 false, IG 63 (.bin .andNot) [T 60, T 62] 58 false, IG 64 (.bin .neq) [T 63, N 0] 58 false, I 65 .pick [T 58, Tt, T 64], Mv 53 65])
 (.cond (T 53)
 (.seq (.region [I 2 .mv [Tf]])
 (.ret))
 (.skip))))))))))
 (.seq (.region [Fa 66 7 1, Ld 67 66, Bi 68 .geq (T 67) (N 0), Mv 69 68, IG 70 (.fieldAddr 7) [T 1] 69 true, IG 71 .load1 [T 70] 69 true, IG 72 (.bin .leq) [T 71, N 2] 69 true, I 73 .pick [T 69, T 72, Tf], Mv 74 73, IG 75 (.fieldAddr 8) [T 1] 74 true, IG 76 .load1 [T 75] 74 true, IG 77 (.bin .geq) [T 76, N 0] 74 true, I 78 .pick [T 74, T 77, Tf], Mv 79 78, IG 80 (.fieldAddr 8) [T 1] 79 true, IG 81 .load1 [T 80] 79 true, IG 82 (.bin .leq) [T 81, N 4] 79 true, I 83 .pick [T 79, T 82, Tf], Mv 2 83])
 (.ret)))⟩
abbrev n_vmap_within : Nat := 162
def c_vmap_within : AFn := ⟨21, [.tmp 4], .seq (.region [I 4 .mv [Tf]])
 (.seq (.region [Mv 5 0, Bi 6 .geq (T 5) (N 0), Mv 7 6, Mw 8 1 7 true, IG 9 (.bin .geq) [T 8, N 1] 7 true, I 10 .pick [T 7, T 9, Tf], Mv 11 10, Mw 12 1 11 true, IG 13 (.bin .leq) [T 12, N 4096] 11 true, I 14 .pick [T 11, T 13, Tf], Mv 15 14, Mw 16 0 15 true, Mw 17 1 15 true, IG 18 (.bin .sub) [N 67108864, T 17] 15 true, IG 19 (.bin .leq) [T 16, T 18] 15 true, I 20 .pick [T 15, T 19, Tf], Mv 4 20])
 (.ret))⟩
abbrev n_entry_Cut : Nat := 163
def c_entry_Cut : AFn := ⟨19, [.tmp 6, .tmp 7], .seq (.region [I 4 (.box 3 1) [T 1], I 5 (.box 3 1) [T 2], I 6 .mv [.lit .nilsl], I 7 .mv [.lit .nilsl]])
 (.seq (.draw [[⟨0, Mv 9 0, [], false⟩, ⟨1, Ld 10 4, [], false⟩, ⟨3, Ld 12 5, [], false⟩, ⟨2, Kc 11 [F 251, T 9, T 10], [(3, Ld 12 5)], false⟩, ⟨4, Kc 13 [F 251, T 11, T 12], [], false⟩, ⟨5, Mv 0 13, [], true⟩]])
 (.seq (.region [I 8 (.alloc 158 1 (.vals [.nilsl])) []])
 (.seq (.region [Mv 14 0, I 15 (.mkfunc 253 0) [T 4, T 5, T 8], Kc 16 [F 252, T 14, T 15], Mv 0 16])
 (.seq (.draw [[⟨0, Mv 17 0, [], false⟩, ⟨1, Ld 18 8, [], false⟩, ⟨2, Mv 6 17, [], false⟩, ⟨3, Mv 7 18, [], false⟩]])
 (.ret)))))⟩
abbrev n_entry_Space : Nat := 164
def c_entry_Space : AFn := ⟨37, [.tmp 6, .tmp 7], .seq (.region [Mn 6 0, I 7 .mv [Tf]])
 (.seq (.seq (.region [Mv 12 2, Bi 13 .lss (T 12) (N 1), Mv 14 13, Mw 15 2 14 false, IG 16 (.bin .gtr) [T 15, N 67108864] 14 false, I 17 .pick [T 14, Tt, T 16]])
 (.cond (T 17)
 (.seq (.region [Mn 6 0, I 7 .mv [Tf]])
 (.ret))
 (.skip)))
 (.seq (.seq (.region [Mv 19 0, Mv 20 1, I 21 (.max) [T 20, N 0], Mv 22 2, Kc 23 [F 254, T 19, T 21, T 22], Mv 18 23, Xt 24 0 18, Xt 25 1 18, Mv 8 24, Mv 9 25])
 (.seq (.region [Mv 26 9])
 (.cond (T 26)
 (.seq (.region [Mv 27 8, Mv 6 27, I 7 .mv [Tt]])
 (.ret))
 (.skip))))
 (.seq (.region [Mv 29 0, Mv 30 2, Kc 31 [F 254, T 29, N 0, T 30], Mv 28 31, Xt 32 0 28, Xt 33 1 28, Mv 10 32, Mv 11 33])
 (.seq (.seq (.region [Mv 34 11, I 35 (.un .not) [T 34]])
 (.cond (T 35)
 (.seq (.region [Mn 6 0, I 7 .mv [Tf]])
 (.ret))
 (.skip)))
 (.seq (.region [Mv 36 10, Mv 6 36, I 7 .mv [Tt]])
 (.ret))))))⟩
abbrev n_entry_Insert : Nat := 165
def c_entry_Insert : AFn := ⟨44, [.tmp 4, .tmp 5], .seq (.region [I 3 (.box 94 10) [T 1], I 4 .mv [.lit .nilsl], I 5 .mv [Tf]])
 (.seq (.region [Mv 8 0, Kc 9 [F 172, T 8], Mv 0 9])
 (.seq (.seq (.region [I 10 (.loadn 10) [T 3], Kc 11 [F 161, T 10], I 12 (.un .not) [T 11]])
 (.cond (T 12)
 (.seq (.region [Mv 13 0, Mv 4 13, I 5 .mv [Tf]])
 (.ret))
 (.skip)))
 (.seq (.region [Mv 15 0, Fa 16 0 3, Ld 17 16, Kc 18 [F 123, T 15, T 17], Mv 14 18, Xt 19 0 14, Xt 20 1 14, Mv 6 19, Mv 7 20])
 (.seq (.seq (.draw [[⟨0, Mv 21 7, [], false⟩, ⟨1, Mv 22 21, [], false⟩, ⟨2, Mw 23 6 22 false, [], false⟩, ⟨3, Mw 24 0 22 false, [], false⟩, ⟨4, IG 25 .lens [T 24] 22 false, [], false⟩, ⟨5, IG 26 (.bin .lss) [T 23, T 25] 22 false, [], false⟩, ⟨6, Mw 27 26 22 false, [], false⟩, ⟨7, Mw 28 0 27 true, [], false⟩, ⟨8, Mw 29 6 27 true, [], false⟩, ⟨9, IG 30 (.indexs 10) [T 28, T 29] 27 true, [], false⟩, ⟨10, IG 31 (.fieldAddr 0) [T 30] 27 true, [], false⟩, ⟨11, IG 32 .load1 [T 31] 27 true, [], false⟩, ⟨12, IG 33 (.fieldAddr 1) [T 3] 27 true, [], false⟩, ⟨13, IG 34 .load1 [T 33] 27 true, [], false⟩, ⟨14, IG 35 (.bin .lss) [T 32, T 34] 27 true, [], false⟩, ⟨15, IG 36 .pick [T 27, T 35, Tf] 22 false, [], false⟩, ⟨16, I 37 .pick [T 22, Tt, T 36], [], false⟩]])
 (.cond (T 37)
 (.seq (.region [Mv 38 0, Mv 4 38, I 5 .mv [Tf]])
 (.ret))
 (.skip)))
 (.seq (.region [Mv 39 0, Mv 40 6, I 41 (.loadn 10) [T 3], I 42 (.bslice 94 10 1 (.vals [Zi, Zi, Zi, Zi, (.bool false), Zi, Zi, Zi, Zi, (.bool false)]) [0]) [T 41], Kc 43 [F 255, T 39, T 40, T 42], Mv 4 43, I 5 .mv [Tt]])
 (.ret))))))⟩
abbrev n_entry_Merge : Nat := 166
def c_entry_Merge_L0 : ACode :=
 .seq (.region [Bi 10 .lss (T 9) (T 8)])
 (.seq (.cond (T 10)
 (.skip)
 (.exit 0))
 (.seq (.block 1 (.seq (.region [I 11 (.indexs 10) [T 7, T 9], I 12 (.loadn 10) [T 11], I 5 (.alloc 94 10 (.vals [Zi, Zi, Zi, Zi, (.bool false), Zi, Zi, Zi, Zi, (.bool false)])) [], J (.store 10) [T 5, T 12]])
 (.seq (.region [Mv 13 3, I 14 .lens [T 13], Bi 15 .sub (T 14) (N 1), Mv 6 15])
 (.seq (.draw [[⟨0, Mv 16 6, [], false⟩, ⟨1, Bi 17 .geq (T 16) (N 0), [], false⟩, ⟨2, Mv 18 17, [], false⟩, ⟨3, Mw 19 3 18 true, [], false⟩, ⟨4, Mw 20 6 18 true, [], false⟩, ⟨5, IG 21 (.indexs 10) [T 19, T 20] 18 true, [], false⟩, ⟨6, IG 22 (.loadn 10) [T 21] 18 true, [], false⟩, ⟨7, IG 23 (.loadn 10) [T 5] 18 true, [], false⟩, ⟨9, IG 25 (.loadn 10) [T 5] 18 true, [], false⟩, ⟨8, IG 24 .callv [F 256, T 22, T 23] 18 true, [(9, IG 25 (.loadn 10) [T 5] 18 true)], false⟩, ⟨10, IG 26 (.eqv false (.flat [.int, .int, .int, .int, .bool, .int, .int, .int, .int, .bool])) [T 24, T 25] 18 true, [], false⟩, ⟨11, I 27 .pick [T 18, T 26, Tf], [], false⟩]])
 (.cond (T 27)
 (.region [Mv 28 3, Mv 29 6, Fa 30 1 5, Ld 31 30, I 32 (.indexs 10) [T 28, T 29], Fa 33 1 32, J (.store 1) [T 33, T 31]])
 (.region [Mv 34 3, I 35 (.loadn 10) [T 5], I 36 (.bslice 94 10 1 (.vals [Zi, Zi, Zi, Zi, (.bool false), Zi, Zi, Zi, Zi, (.bool false)]) [0]) [T 35], I 37 (.append 94 10 80 (.vals [Zi, Zi, Zi, Zi, (.bool false), Zi, Zi, Zi, Zi, (.bool false)])) [T 34, T 36], Mv 3 37]))))))
 (.region [Bi 38 .add (T 9) (N 1), Mv 9 38])))
def c_entry_Merge : AFn := ⟨40, [.tmp 2], .seq (.region [I 2 .mv [.lit .nilsl]])
 (.seq (.region [I 3 .mv [.lit .nilsl]])
 (.seq (.seq (.region [Mv 7 0, I 8 .lens [T 7], Mn 9 0])
 (.block 0 (.loop c_entry_Merge_L0)))
 (.seq (.region [Mv 39 3, Mv 2 39])
 (.ret))))⟩
abbrev n_kern_proc_between : Nat := 167
def c_kern_proc_between_L0 : ACode :=
 .seq (.region [Bi 22 .lss (T 21) (T 20)])
 (.seq (.cond (T 22)
 (.skip)
 (.exit 0))
 (.seq (.block 1 (.seq (.region [I 23 (.indexs 6) [T 19, T 21], I 24 (.loadn 6) [T 23], I 9 (.alloc 168 6 (.vals [Zi, Zi, Zi, Zi, (.bool false), (.bool false)])) [], J (.store 6) [T 9, T 24]])
 (.seq (.region [Fa 25 0 9, Ld 26 25, Mv 27 1, Bi 28 .geq (T 26) (T 27), Mv 29 28, IG 30 (.fieldAddr 1) [T 9] 29 true, IG 31 .load1 [T 30] 29 true, Mw 32 2 29 true, IG 33 (.bin .leq) [T 31, T 32] 29 true, I 34 .pick [T 29, T 33, Tf]])
 (.cond (T 34)
 (.region [Mv 35 7, I 36 (.loadn 6) [T 9], I 37 (.bslice 168 6 1 (.vals [Zi, Zi, Zi, Zi, (.bool false), (.bool false)]) [0]) [T 36], I 38 (.append 168 6 40 (.vals [Zi, Zi, Zi, Zi, (.bool false), (.bool false)])) [T 35, T 37], Mv 7 38])
 (.skip)))))
 (.region [Bi 39 .add (T 21) (N 1), Mv 21 39])))
def c_kern_proc_between : AFn := ⟨41, [.tmp 6], .seq (.region [I 6 .mv [.lit .nilsl]])
 (.seq (.region [Mv 10 0, Mv 11 1, Kc 12 [F 173, T 10, T 11]])
 (.seq (.region [Mv 13 0, Mv 14 2, Kc 15 [F 173, T 13, T 14]])
 (.seq (.region [I 7 .mv [.lit .nilsl]])
 (.seq (.seq (.region [Mv 16 0, Nc 17 16, Fa 18 3 17, Ld 19 18, I 20 .lens [T 19], Mn 21 0])
 (.block 0 (.loop c_kern_proc_between_L0)))
 (.seq (.region [Mv 40 7, Mv 6 40])
 (.ret))))))⟩
abbrev n_slices_DeleteFunc_kern_area_kern_area : Nat := 168
def c_slices_DeleteFunc_kern_area_kern_area_L0 : ACode :=
 .seq (.seq (.region [Mv 16 6, Mv 17 0, I 18 .lens [T 17], Bi 19 .lss (T 16) (T 18)])
 (.cond (T 19)
 (.skip)
 (.exit 0)))
 (.seq (.block 1 (.seq (.region [Mv 22 0, Mv 23 6, I 24 (.indexs 6) [T 22, T 23], I 25 (.loadn 6) [T 24], I 7 (.alloc 168 6 (.vals [Zi, Zi, Zi, Zi, (.bool false), (.bool false)])) [], J (.store 6) [T 7, T 25]])
 (.seq (.region [Mv 26 1, I 27 (.loadn 6) [T 7], Kc 28 [T 26, T 27], I 29 (.un .not) [T 28]])
 (.cond (T 29)
 (.seq (.region [Mv 30 0, Mv 31 5, I 32 (.loadn 6) [T 7], I 33 (.indexs 6) [T 30, T 31], J (.store 6) [T 33, T 32]])
 (.region [Mv 34 5, Bi 35 .add (T 34) (N 1), Mv 5 35]))
 (.skip)))))
 (.region [Mv 20 6, Bi 21 .add (T 20) (N 1), Mv 6 21]))
def c_slices_DeleteFunc_kern_area_kern_area : AFn := ⟨42, [.tmp 4], .seq (.region [I 4 .mv [.lit .nilsl]])
 (.seq (.region [Mv 8 0, Mv 9 1, Kc 10 [F 194, T 8, T 9], Mv 5 10])
 (.seq (.seq (.region [Mv 11 5, Bi 12 .eql (T 11) (N (-1))])
 (.cond (T 12)
 (.seq (.region [Mv 13 0, Mv 4 13])
 (.ret))
 (.skip)))
 (.seq (.seq (.region [Mv 14 5, Bi 15 .add (T 14) (N 1), Mv 6 15])
 (.block 0 (.loop c_slices_DeleteFunc_kern_area_kern_area_L0)))
 (.seq (.region [Mv 36 0, Mv 37 5, I 38 (.slice 6 true false false) [T 36, T 37], J (.clear 6 (.vals [Zi, Zi, Zi, Zi, (.bool false), (.bool false)])) [T 38]])
 (.seq (.region [Mv 39 0, Mv 40 5, I 41 (.slice 6 false true false) [T 39, T 40], Mv 4 41])
 (.ret))))))⟩
abbrev n_kern_Kernel_strip_1 : Nat := 169
def c_kern_Kernel_strip_1 : AFn := ⟨15, [.tmp 4], .seq (.region [I 3 (.box 168 6) [T 0], I 4 .mv [Tf]])
 (.seq (.region [Fa 5 0 3, Ld 6 5, Ld 7 1, Bi 8 .geq (T 6) (T 7), Mv 9 8, IG 10 (.fieldAddr 1) [T 3] 9 true, IG 11 .load1 [T 10] 9 true, IG 12 .load1 [T 2] 9 true, IG 13 (.bin .leq) [T 11, T 12] 9 true, I 14 .pick [T 9, T 13, Tf], Mv 4 14])
 (.ret))⟩
abbrev n_kern_Kernel_reach : Nat := 170
def c_kern_Kernel_reach : AFn := ⟨93, [.tmp 8, .tmp 9], .seq (.region [Mn 8 0, I 9 .mv [Tf]])
 (.seq (.region [Mv 18 1, Nc 19 18, Fa 20 0 19, Ld 21 20, Mv 22 2, I 23 (.build (.agg [Zi, Zi]) [(0, 1), (1, 1)]) [T 21, T 22], I 10 (.alloc 207 2 (.vals [Zi, Zi])) [], J (.store 2) [T 10, T 23]])
 (.seq (.seq (.draw [[⟨0, Mv 25 0, [], false⟩, ⟨1, Nc 26 25, [], false⟩, ⟨2, Fa 27 8 26, [], false⟩, ⟨3, Ld 28 27, [], false⟩, ⟨4, I 29 (.loadn 2) [T 10], [], false⟩, ⟨5, Kc 30 [F 257, T 28, T 29], [], false⟩, ⟨6, Mv 24 30, [], false⟩, ⟨7, Xt 31 0 24, [], false⟩, ⟨8, Xt 32 1 24, [], false⟩, ⟨9, I 11 (.alloc 204 2 (.vals [Zi, Zi])) [], [(3, Ld 28 27), (4, I 29 (.loadn 2) [T 10])], false⟩, ⟨10, J (.store 2) [T 11, T 31], [], false⟩, ⟨11, Mv 12 32, [], false⟩]])
 (.seq (.region [Mv 33 12, Mv 34 33, IG 35 (.loadn 2) [T 11] 34 true, Mw 36 3 34 true, IG 37 .callv [F 258, T 35, T 36, Tt] 34 true, I 38 .pick [T 34, T 37, Tf], Mv 39 38, Mw 40 3 39 true, IG 41 (.bin .neq) [T 40, N 2] 39 true, Mw 42 41 39 true, IG 43 (.fieldAddr 0) [T 11] 42 false, IG 44 .load1 [T 43] 42 false, IG 45 (.bin .and) [T 44, N 128] 42 false, IG 46 (.bin .gtr) [T 45, N 0] 42 false, IG 47 .pick [T 42, Tt, T 46] 39 true, I 48 .pick [T 39, T 47, Tf]])
 (.cond (T 48)
 (.seq (.region [Fa 49 1 11, Ld 50 49, Mv 8 50, I 9 .mv [Tt]])
 (.ret))
 (.skip))))
 (.seq (.draw [[⟨0, Mv 52 0, [], false⟩, ⟨1, Nc 53 52, [], false⟩, ⟨2, Fa 54 0 53, [], false⟩, ⟨3, Ld 55 54, [], false⟩, ⟨4, Mv 56 1, [], false⟩, ⟨5, Nc 57 56, [], false⟩, ⟨6, Fa 58 2 57, [], false⟩, ⟨7, Ld 59 58, [], false⟩, ⟨9, Mv 61 2, [], false⟩, ⟨10, I 62 (.bin .shl) [T 61, .lit (.int .u64 12)], [], false⟩, ⟨11, Mv 63 3, [], false⟩, ⟨8, Kc 60 [F 260, T 59], [(3, Ld 55 54)], false⟩, ⟨12, Kc 64 [F 259, T 55, T 60, T 62, T 63, Tt], [], false⟩, ⟨13, Mv 51 64, [], false⟩, ⟨14, Xt 65 0 51, [], false⟩, ⟨15, Xt 66 1 51, [], false⟩, ⟨16, Xt 67 2 51, [], false⟩, ⟨17, Mv 13 65, [], false⟩, ⟨18, Mv 14 66, [], false⟩, ⟨19, Mv 15 67, [], false⟩]])
 (.seq (.seq (.region [Mv 68 13, Bi 69 .neq (T 68) (N 0)])
 (.cond (T 69)
 (.seq (.region [Mn 8 (-1), I 9 .mv [Tf]])
 (.ret))
 (.skip)))
 (.seq (.seq (.draw [[⟨0, Mv 71 0, [], false⟩, ⟨1, Nc 72 71, [], false⟩, ⟨2, Fa 73 0 72, [], false⟩, ⟨3, Ld 74 73, [], false⟩, ⟨4, Mv 75 1, [], false⟩, ⟨5, Nc 76 75, [], false⟩, ⟨6, Fa 77 2 76, [], false⟩, ⟨7, Ld 78 77, [], false⟩, ⟨9, Mv 80 2, [], false⟩, ⟨8, Kc 79 [F 260, T 78], [(3, Ld 74 73)], false⟩, ⟨10, Kc 81 [F 261, T 74, T 79, T 80], [], false⟩, ⟨11, Mv 70 81, [], false⟩, ⟨12, Xt 82 0 70, [], false⟩, ⟨13, Xt 83 1 70, [], false⟩, ⟨14, I 16 (.alloc 204 2 (.vals [Zi, Zi])) [], [(3, Ld 74 73), (7, Ld 78 77)], false⟩, ⟨15, J (.store 2) [T 16, T 82], [], false⟩, ⟨16, Mv 17 83, [], false⟩]])
 (.seq (.region [Mv 84 17])
 (.cond (T 84)
 (.draw [[⟨0, Mv 85 0, [], false⟩, ⟨1, Nc 86 85, [], false⟩, ⟨2, Fa 87 8 86, [], false⟩, ⟨3, Ld 88 87, [], false⟩, ⟨4, I 89 (.loadn 2) [T 10], [], false⟩, ⟨5, I 90 (.loadn 2) [T 16], [], false⟩, ⟨6, Kc 91 [F 262, T 88, T 89, T 90], [], false⟩]])
 (.skip))))
 (.seq (.region [Mv 92 14, Mv 8 92, I 9 .mv [Tt]])
 (.ret)))))))⟩
abbrev n_kern_Kernel_fault : Nat := 171
def c_kern_Kernel_fault : AFn := ⟨98, [.tmp 8], .seq (.region [Mn 8 0])
 (.seq (.region [Mv 15 1, Nc 16 15, Fa 17 1 16, Ld 18 17, Mv 19 2, Kc 20 [F 55, T 18, T 19], Mv 14 20, Xt 21 0 14, Xt 22 1 14, I 9 (.alloc 94 10 (.vals [Zi, Zi, Zi, Zi, (.bool false), Zi, Zi, Zi, Zi, (.bool false)])) [], J (.store 10) [T 9, T 21], Mv 10 22])
 (.seq (.region [Mn 11 0])
 (.seq (.region [Mn 12 0])
 (.seq (.block 0 (.seq (.region [Fa 33 4 9, Ld 34 33, Mv 35 34, Mw 36 3 35 true, I 37 .pick [T 35, T 36, Tf], Mv 32 37])
 (.cond (T 32)
 (.region [Mv 39 0, Fa 40 2 9, Ld 41 40, Fa 42 3 9, Ld 43 42, Mv 44 2, Bi 45 .add (T 43) (T 44), Fa 46 0 9, Ld 47 46, Bi 48 .sub (T 45) (T 47), Kc 49 [F 78, T 39, T 41, T 48], Mv 38 49, Xt 50 0 38, Xt 51 1 38, Mv 11 50, Mv 12 51])
 (.seq (.region [Fa 53 4 9, Ld 54 53, Mv 52 54])
 (.cond (T 52)
 (.region [Mv 56 0, Fa 57 2 9, Ld 58 57, Fa 59 3 9, Ld 60 59, Mv 61 2, Bi 62 .add (T 60) (T 61), Fa 63 0 9, Ld 64 63, Bi 65 .sub (T 62) (T 64), Kc 66 [F 76, T 56, T 58, T 65], Mv 55 66, Xt 67 0 55, Xt 68 1 55, Xt 69 2 55, Mv 11 68, Mv 12 69])
 (.region [Mv 24 0, Mv 25 1, I 26 (.loadn 10) [T 9], Mv 27 2, Mv 28 3, Kc 29 [F 263, T 24, T 25, T 26, T 27, T 28], Mv 23 29, Xt 30 0 23, Xt 31 1 23, Mv 11 30, Mv 12 31]))))))
 (.seq (.seq (.region [Mv 70 12, Bi 71 .neq (T 70) (N 0)])
 (.cond (T 71)
 (.seq (.region [Mv 72 12, Mv 8 72])
 (.ret))
 (.skip)))
 (.seq (.region [Fa 73 5 9, Ld 74 73, Mv 13 74])
 (.seq (.seq (.region [Mv 75 3, I 76 (.un .not) [T 75]])
 (.cond (T 76)
 (.region [Mv 77 13, Bi 78 .andNot (T 77) (N 2), Mv 13 78])
 (.skip)))
 (.seq (.draw [[⟨0, Mv 79 0, [], false⟩, ⟨1, Nc 80 79, [], false⟩, ⟨2, Fa 81 8 80, [], false⟩, ⟨3, Ld 82 81, [], false⟩, ⟨4, Mv 83 1, [], false⟩, ⟨5, Nc 84 83, [], false⟩, ⟨6, Fa 85 0 84, [], false⟩, ⟨7, Ld 86 85, [], false⟩, ⟨8, Mv 87 2, [], false⟩, ⟨9, I 88 (.build (.agg [Zi, Zi]) [(0, 1), (1, 1)]) [T 86, T 87], [], false⟩, ⟨10, Kc 89 [F 143, T 82, T 88], [], false⟩]])
 (.seq (.region [Mv 90 1, Nc 91 90, Fa 92 2 91, Ld 93 92, Mv 94 2, Mv 95 11, Mv 96 13, Kc 97 [F 264, T 93, T 94, T 95, T 96], Mv 8 97])
 (.ret))))))))))⟩
abbrev n_slices_Clone_api_Entry_api_Entry : Nat := 172
def c_slices_Clone_api_Entry_api_Entry : AFn := ⟨8, [.tmp 2], .seq (.region [I 2 .mv [.lit .nilsl]])
 (.seq (.seq (.region [Mv 3 0, I 4 (.eqv false .slice) [T 3, .lit .nilsl]])
 (.cond (T 4)
 (.seq (.region [I 2 .mv [.lit .nilsl]])
 (.ret))
 (.skip)))
 (.seq (.region [I 5 (.bslice 94 10 0 (.vals [Zi, Zi, Zi, Zi, (.bool false), Zi, Zi, Zi, Zi, (.bool false)]) []) [], Mv 6 0, I 7 (.append 94 10 80 (.vals [Zi, Zi, Zi, Zi, (.bool false), Zi, Zi, Zi, Zi, (.bool false)])) [T 5, T 6], Mv 2 7])
 (.ret)))⟩
abbrev n_kern_proc_split : Nat := 173
def c_kern_proc_split : AFn := ⟨51, [], .seq (.region [I 3 (.box 3 1) [T 1]])
 (.seq (.region [Mv 6 0, Nc 7 6, Fa 8 3 7, Ld 9 8, I 10 (.mkfunc 265 0) [T 3], Kc 11 [F 194, T 9, T 10], Mv 4 11])
 (.seq (.seq (.region [Mv 12 4, Bi 13 .lss (T 12) (N 0)])
 (.cond (T 13)
 (.ret)
 (.skip)))
 (.seq (.region [Mv 14 0, Nc 15 14, Fa 16 3 15, Ld 17 16, Mv 18 4, I 19 (.indexs 6) [T 17, T 18], I 20 (.loadn 6) [T 19], I 5 (.alloc 168 6 (.vals [Zi, Zi, Zi, Zi, (.bool false), (.bool false)])) [], J (.store 6) [T 5, T 20]])
 (.seq (.region [Fa 21 3 5, Ld 22 21, Ld 23 3, Fa 24 0 5, Ld 25 24, Bi 26 .sub (T 23) (T 25), Bi 27 .add (T 22) (T 26), Fa 28 3 5, J (.store 1) [T 28, T 27]])
 (.seq (.draw [[⟨0, Mv 29 0, [], false⟩, ⟨1, Nc 30 29, [], false⟩, ⟨2, Fa 31 3 30, [], false⟩, ⟨3, Ld 32 31, [], false⟩, ⟨4, Mv 33 4, [], false⟩, ⟨5, Ld 34 3, [], false⟩, ⟨6, Ld 35 3, [], false⟩, ⟨7, I 36 (.indexs 6) [T 32, T 33], [], false⟩, ⟨8, Fa 37 1 36, [], false⟩, ⟨9, J (.store 1) [T 37, T 34], [(6, Ld 35 3)], false⟩, ⟨10, Fa 38 0 5, [], false⟩, ⟨11, J (.store 1) [T 38, T 35], [], false⟩]])
 (.draw [[⟨0, Mv 39 0, [], false⟩, ⟨1, Mv 40 0, [], false⟩, ⟨2, Nc 41 40, [], false⟩, ⟨3, Fa 42 3 41, [], false⟩, ⟨4, Ld 43 42, [], false⟩, ⟨5, Mv 44 4, [], false⟩, ⟨6, Bi 45 .add (T 44) (N 1), [], false⟩, ⟨7, I 46 (.loadn 6) [T 5], [], false⟩, ⟨8, I 47 (.bslice 168 6 1 (.vals [Zi, Zi, Zi, Zi, (.bool false), (.bool false)]) [0]) [T 46], [(4, Ld 43 42)], false⟩, ⟨9, Kc 48 [F 196, T 43, T 45, T 47], [], false⟩, ⟨10, Nc 49 39, [], false⟩, ⟨11, Fa 50 3 49, [], false⟩, ⟨12, J (.store 1) [T 50, T 48], [], false⟩]]))))))⟩
abbrev n_kern_Kernel_own : Nat := 174
def c_kern_Kernel_own_L0 : ACode :=
 .seq (.seq (.region [Mv 37 10, Mv 38 8, Nc 39 38, I 40 (.loadn 6) [T 39], Kc 41 [F 176, T 40], Bi 42 .lss (T 37) (T 41)])
 (.cond (T 42)
 (.skip)
 (.exit 0)))
 (.seq (.block 1 (.draw [[⟨0, Mv 45 9, [], false⟩, ⟨1, Mv 46 45, [], false⟩, ⟨2, Mw 47 0 46 true, [], false⟩, ⟨3, IG 48 .nilCheck [T 47] 46 true, [], false⟩, ⟨4, IG 49 (.fieldAddr 6) [T 48] 46 true, [], false⟩, ⟨5, IG 50 .load1 [T 49] 46 true, [], false⟩, ⟨6, Mw 51 8 46 true, [], false⟩, ⟨7, IG 52 .nilCheck [T 51] 46 true, [], false⟩, ⟨8, IG 53 (.fieldAddr 2) [T 52] 46 true, [], false⟩, ⟨9, IG 54 .load1 [T 53] 46 true, [], false⟩, ⟨10, Mw 55 10 46 true, [], false⟩, ⟨11, IG 56 .callv [F 267, T 50, T 54, T 55] 46 true, [], false⟩, ⟨12, IG 57 (.bin .eql) [T 56, N 1] 46 true, [], false⟩, ⟨13, I 58 .pick [T 46, T 57, Tf], [], false⟩, ⟨14, Mv 9 58, [], true⟩]]))
 (.region [Mv 43 10, Bi 44 .add (T 43) (N 1), Mv 10 44]))
def c_kern_Kernel_own_L1 : ACode :=
 .seq (.region [Bi 88 .lss (T 87) (T 86)])
 (.seq (.cond (T 88)
 (.skip)
 (.exit 2))
 (.seq (.block 3 (.seq (.region [I 89 (.indexs 1) [T 85, T 87], Ld 90 89, Mv 15 90])
 (.region [Mv 91 0, Nc 92 91, Fa 93 5 92, Ld 94 93, Mv 95 15, Kc 96 [F 269, T 94, T 95, N 1]])))
 (.region [Bi 97 .add (T 87) (N 1), Mv 87 97])))
def c_kern_Kernel_own : AFn := ⟨114, [.tmp 6, .tmp 7], .seq (.region [I 6 .mv [.lit .nilptr], Mn 7 0])
 (.seq (.region [Mv 16 1, Mv 17 2, Kc 18 [F 125, T 16, T 17], Mv 8 18])
 (.seq (.seq (.region [Mv 19 8, I 20 (.eqv false .ptr) [T 19, .lit .nilptr]])
 (.cond (T 20)
 (.seq (.region [Mv 21 0, Mv 22 1, Mv 23 2, Kc 24 [F 266, T 21, T 22, T 23], Xt 25 0 24, Xt 26 1 24, Mv 6 25, Mv 7 26])
 (.ret))
 (.skip)))
 (.seq (.seq (.region [Mv 27 8, Nc 28 27, Fa 29 4 28, Ld 30 29, I 31 (.un .not) [T 30]])
 (.cond (T 31)
 (.seq (.region [Mv 32 8, Mv 6 32, Mn 7 0])
 (.ret))
 (.skip)))
 (.seq (.region [I 9 .mv [Tt]])
 (.seq (.seq (.region [Mv 33 8, Nc 34 33, Fa 35 3 34, Ld 36 35, Mv 10 36])
 (.block 0 (.loop c_kern_Kernel_own_L0)))
 (.seq (.seq (.region [Mv 59 9, I 60 (.un .not) [T 59]])
 (.cond (T 60)
 (.seq (.draw [[⟨0, Mv 62 0, [], false⟩, ⟨1, Nc 63 62, [], false⟩, ⟨2, Fa 64 6 63, [], false⟩, ⟨3, Ld 65 64, [], false⟩, ⟨4, Mv 66 8, [], false⟩, ⟨5, Nc 67 66, [], false⟩, ⟨6, Fa 68 2 67, [], false⟩, ⟨7, Ld 69 68, [], false⟩, ⟨8, Mv 70 8, [], false⟩, ⟨9, Nc 71 70, [], false⟩, ⟨10, Fa 72 3 71, [], false⟩, ⟨11, Ld 73 72, [], false⟩, ⟨12, Mv 74 8, [], false⟩, ⟨13, Nc 75 74, [], false⟩, ⟨14, I 76 (.loadn 6) [T 75], [], false⟩, ⟨15, Kc 77 [F 176, T 76], [(3, Ld 65 64), (7, Ld 69 68), (11, Ld 73 72)], false⟩, ⟨16, Kc 78 [F 268, T 65, T 69, T 73, T 77], [], false⟩, ⟨17, Mv 61 78, [], false⟩, ⟨18, Xt 79 0 61, [], false⟩, ⟨19, Xt 80 1 61, [], false⟩, ⟨20, Xt 81 2 61, [], false⟩, ⟨21, Mv 11 79, [], false⟩, ⟨22, Mv 12 80, [], false⟩, ⟨23, Mv 13 81, [], false⟩]])
 (.seq (.seq (.region [Mv 82 13, Bi 83 .neq (T 82) (N 0)])
 (.cond (T 83)
 (.seq (.region [Mv 84 13, I 6 .mv [.lit .nilptr], Mv 7 84])
 (.ret))
 (.skip)))
 (.seq (.seq (.region [Mv 85 12, I 86 .lens [T 85], Mn 87 0])
 (.block 2 (.loop c_kern_Kernel_own_L1)))
 (.seq (.region [Mv 98 0, Mv 99 8, Nc 100 99, I 101 (.loadn 6) [T 100], Kc 102 [F 95, T 98, T 101]])
 (.region [Mv 103 8, Mv 104 8, Mv 105 11, Nc 106 103, Fa 107 2 106, J (.store 1) [T 107, T 105], Nc 108 104, Fa 109 3 108, J (.store 1) [T 109, N 0]])))))
 (.skip)))
 (.seq (.region [Mv 110 8, Nc 111 110, Fa 112 4 111, J (.store 1) [T 112, Tf]])
 (.seq (.region [Mv 113 8, Mv 6 113, Mn 7 0])
 (.ret)))))))))⟩
abbrev n_amap_Pool_Hold : Nat := 175
def c_amap_Pool_Hold_L0 : ACode :=
 .seq (.region [Bi 34 .lss (T 33) (T 32)])
 (.seq (.cond (T 34)
 (.skip)
 (.exit 0))
 (.seq (.block 1 (.seq (.region [I 35 (.indexs 3) [T 31, T 33], I 36 (.loadn 3) [T 35], I 12 (.alloc 323 3 (.vals [Zi, Zi, Zi])) [], J (.store 3) [T 12, T 36]])
 (.seq (.region [Fa 37 2 12, Ld 38 37, Bi 39 .eql (T 38) (N 0), Mv 40 39, IG 41 (.fieldAddr 0) [T 12] 40 true, IG 42 .load1 [T 41] 40 true, Mw 43 3 40 true, IG 44 (.bin .lss) [T 42, T 43] 40 true, I 45 .pick [T 40, T 44, Tf], Mv 46 45, Mw 47 2 46 true, IG 48 (.fieldAddr 1) [T 12] 46 true, IG 49 .load1 [T 48] 46 true, IG 50 (.bin .lss) [T 47, T 49] 46 true, I 51 .pick [T 46, T 50, Tf]])
 (.cond (T 51)
 (.seq (.region [Mn 8 2])
 (.ret))
 (.skip)))))
 (.region [Bi 52 .add (T 33) (N 1), Mv 33 52])))
def c_amap_Pool_Hold : AFn := ⟨64, [.tmp 8], .seq (.region [Mn 8 0])
 (.seq (.region [Mv 14 0, Mv 15 1, Kc 16 [F 270, T 14, T 15], Mv 13 16, Xt 17 0 13, Xt 18 1 13, Mv 9 17, Mv 10 18])
 (.seq (.seq (.region [Mv 19 10, Bi 20 .neq (T 19) (N 0)])
 (.cond (T 20)
 (.seq (.region [Mv 21 10, Mv 8 21])
 (.ret))
 (.skip)))
 (.seq (.seq (.region [Mv 22 9, Mv 23 2, Mv 24 3, Kc 25 [F 271, T 22, T 23, T 24], I 26 (.un .not) [T 25]])
 (.cond (T 26)
 (.seq (.region [Mn 8 2])
 (.ret))
 (.skip)))
 (.seq (.seq (.region [Mv 27 9, Nc 28 27, Fa 29 0 28, Ld 30 29, Kc 31 [F 272, T 30], I 32 .lens [T 31], Mn 33 0])
 (.block 0 (.loop c_amap_Pool_Hold_L0)))
 (.seq (.region [Mv 54 9, Nc 55 54, Fa 56 0 55, Ld 57 56, Mv 58 2, Mv 59 3, Kc 60 [F 186, T 57, T 58, T 59, N 1], Mv 53 60, Xt 61 0 53, Xt 62 1 53, Mv 10 62])
 (.seq (.region [Mv 63 10, Mv 8 63])
 (.ret)))))))⟩
abbrev n_kern_area_end : Nat := 176
def c_kern_area_end : AFn := ⟨11, [.tmp 2], .seq (.region [I 1 (.box 168 6) [T 0], Mn 2 0])
 (.seq (.region [Fa 3 3 1, Ld 4 3, Fa 5 1 1, Ld 6 5, Bi 7 .add (T 4) (T 6), Fa 8 0 1, Ld 9 8, Bi 10 .sub (T 7) (T 9), Mv 2 10])
 (.ret))⟩
abbrev n_pmap_Map_made : Nat := 178
def c_pmap_Map_made : AFn := ⟨12, [.tmp 2], .seq (.region [I 2 .mv [Tf]])
 (.seq (.region [Mv 3 0, I 4 (.eqv true .ptr) [T 3, .lit .nilptr], Mv 5 4, Mw 6 0 5 true, IG 7 .nilCheck [T 6] 5 true, IG 8 (.fieldAddr 4) [T 7] 5 true, IG 9 .load1 [T 8] 5 true, IG 10 (.bin .gtr) [T 9, N 0] 5 true, I 11 .pick [T 5, T 10, Tf], Mv 2 11])
 (.ret))⟩
abbrev n_pmap_Map_below : Nat := 179
def c_pmap_Map_below : AFn := ⟨38, [.tmp 6, .tmp 7], .seq (.region [Mn 6 0, I 7 .mv [Tf]])
 (.seq (.region [Mv 12 0, Nc 13 12, Fa 14 0 13, Ld 15 14, Mv 16 1, Mv 17 2, Kc 18 [F 273, T 15, T 16, T 17], Mv 11 18, Xt 19 0 11, Xt 20 1 11, Mv 8 19, Mv 9 20])
 (.seq (.region [Mv 21 8, Kc 22 [F 274, T 21], I 10 (.alloc 204 2 (.vals [Zi, Zi])) [], J (.store 2) [T 10, T 22]])
 (.seq (.draw [[⟨0, Fa 23 1 10, [], false⟩, ⟨1, Ld 24 23, [], false⟩, ⟨2, I 25 (.loadn 2) [T 10], [], false⟩, ⟨3, Kc 26 [F 275, T 25], [(1, Ld 24 23)], false⟩, ⟨4, Bi 27 .eql (T 26) (N 1), [], false⟩, ⟨5, Mv 28 27, [], false⟩, ⟨6, IG 29 (.fieldAddr 1) [T 10] 28 true, [], false⟩, ⟨7, IG 30 .load1 [T 29] 28 true, [], false⟩, ⟨8, Mw 31 0 28 true, [], false⟩, ⟨9, IG 32 .nilCheck [T 31] 28 true, [], false⟩, ⟨10, IG 33 (.fieldAddr 0) [T 32] 28 true, [], false⟩, ⟨11, IG 34 .load1 [T 33] 28 true, [], false⟩, ⟨12, IG 35 .callv [F 44, T 34] 28 true, [(1, Ld 24 23), (7, IG 30 .load1 [T 29] 28 true)], false⟩, ⟨13, IG 36 (.bin .lss) [T 30, T 35] 28 true, [], false⟩, ⟨14, I 37 .pick [T 28, T 36, Tf], [], false⟩, ⟨15, Mv 6 24, [], false⟩, ⟨16, Mv 7 37, [], false⟩]])
 (.ret))))⟩
abbrev n_pmap_Map_give : Nat := 180
def c_pmap_Map_give : AFn := ⟨35, [], .seq (.region [Mv 9 0, Mv 10 1, Mv 11 2, Kc 12 [F 179, T 9, T 10, T 11], Mv 8 12, Xt 13 0 8, Xt 14 1 8, Mv 6 13, Mv 7 14])
 (.seq (.region [Mv 15 0, Nc 16 15, Fa 17 1 16, Ld 18 17, Mv 19 6, Kc 20 [F 117, T 18, T 19]])
 (.seq (.region [Mv 21 0, Nc 22 21, Fa 23 0 22, Ld 24 23, Mv 25 1, Mv 26 2, Kc 27 [F 276, T 24, T 25, T 26, .lit (.int .u64 0)]])
 (.region [Mv 28 0, Nc 29 28, Fa 30 4 29, Ld 31 30, Bi 32 .sub (T 31) (N 1), Nc 33 28, Fa 34 4 33, J (.store 1) [T 34, T 32]])))⟩
abbrev n_tlb_Table_drop : Nat := 181
def c_tlb_Table_drop_L0 : ACode :=
 .seq (.region [Bi 22 .lss (T 21) (T 20)])
 (.seq (.cond (T 22)
 (.skip)
 (.exit 0))
 (.seq (.block 1 (.seq (.region [I 23 (.indexs 2) [T 19, T 21], I 24 (.loadn 2) [T 23], I 8 (.alloc 207 2 (.vals [Zi, Zi])) [], J (.store 2) [T 8, T 24]])
 (.seq (.region [Mv 25 1, I 26 (.loadn 2) [T 8], Kc 27 [T 25, T 26]])
 (.cond (T 27)
 (.draw [[⟨0, Mv 28 0, [], false⟩, ⟨1, Nc 29 28, [], false⟩, ⟨2, Fa 30 2 29, [], false⟩, ⟨3, Ld 31 30, [], false⟩, ⟨4, I 32 (.loadn 2) [T 8], [], false⟩, ⟨5, J (.delete (.flat [.int, .int])) [T 31, T 32], [], false⟩]])
 (.region [Mv 33 6, I 34 (.loadn 2) [T 8], I 35 (.bslice 207 2 1 (.vals [Zi, Zi]) [0]) [T 34], I 36 (.append 207 2 16 (.vals [Zi, Zi])) [T 33, T 35], Mv 6 36])))))
 (.region [Bi 37 .add (T 21) (N 1), Mv 21 37])))
def c_tlb_Table_drop : AFn := ⟨46, [.tmp 4], .seq (.region [Mn 4 0])
 (.seq (.seq (.region [Mv 9 0, I 10 (.eqv false .ptr) [T 9, .lit .nilptr]])
 (.cond (T 10)
 (.seq (.region [Mn 4 0])
 (.ret))
 (.skip)))
 (.seq (.region [Mv 11 0, Nc 12 11, Fa 13 1 12, Ld 14 13, I 15 .lens [T 14], Mv 5 15])
 (.seq (.region [I 6 .mv [.lit .nilsl]])
 (.seq (.seq (.region [Mv 16 0, Nc 17 16, Fa 18 1 17, Ld 19 18, I 20 .lens [T 19], Mn 21 0])
 (.block 0 (.loop c_tlb_Table_drop_L0)))
 (.seq (.region [Mv 38 0, Mv 39 6, Nc 40 38, Fa 41 1 40, J (.store 1) [T 41, T 39]])
 (.seq (.region [Mv 42 5, Mv 43 6, I 44 .lens [T 43], Bi 45 .sub (T 42) (T 44), Mv 4 45])
 (.ret)))))))⟩
abbrev n_tlb_Table_FlushAsid_1 : Nat := 182
def c_tlb_Table_FlushAsid_1 : AFn := ⟨8, [.tmp 3], .seq (.region [I 2 (.box 207 2) [T 0], I 3 .mv [Tf]])
 (.seq (.region [Fa 4 0 2, Ld 5 4, Ld 6 1, Bi 7 .eql (T 5) (T 6), Mv 3 7])
 (.ret))⟩
abbrev n_amap_Pool_made : Nat := 184
def c_amap_Pool_made : AFn := ⟨11, [.tmp 2], .seq (.region [I 2 .mv [Tf]])
 (.seq (.region [Mv 3 0, I 4 (.eqv true .ptr) [T 3, .lit .nilptr], Mv 5 4, Mw 6 0 5 true, IG 7 .nilCheck [T 6] 5 true, IG 8 (.fieldAddr 1) [T 7] 5 true, IG 9 .load1 [T 8] 5 true, I 10 .pick [T 5, T 9, Tf], Mv 2 10])
 (.ret))⟩
abbrev n_spread_New : Nat := 185
def c_spread_New : AFn := ⟨16, [.tmp 2], .seq (.region [I 2 .mv [.lit .nilptr]])
 (.seq (.seq (.region [Mv 4 0, Bi 5 .lss (T 4) (N 0), Mv 6 5, Mw 7 0 6 false, IG 8 (.bin .gtr) [T 7, N 4096] 6 false, I 9 .pick [T 6, Tt, T 8]])
 (.cond (T 9)
 (.seq (.region [I 2 .mv [.lit .nilptr]])
 (.ret))
 (.skip)))
 (.seq (.region [I 10 (.build (.agg [.nilsl, Zi, (.bool false)]) [(2, 1)]) [Tt], I 11 (.box 330 3) [T 10], Mv 3 11])
 (.seq (.region [Mv 12 3, Mv 13 0, Kc 14 [F 277, T 12, T 13]])
 (.seq (.region [Mv 15 3, Mv 2 15])
 (.ret)))))⟩
abbrev n_spread_Counts_Add : Nat := 186
def c_spread_Counts_Add_L1 : ACode :=
 .seq (.seq (.region [Ld 53 7, Bi 54 .neq (T 53) (N 0), Mv 55 54, IG 56 .load1 [T 7] 55 true, IG 57 (.fieldAddr 2) [T 11] 55 true, IG 58 .load1 [T 57] 55 true, IG 59 (.un .neg) [T 58] 55 true, IG 60 (.bin .eql) [T 56, T 59] 55 true, I 61 .pick [T 55, T 60, Tf], Mv 62 61, Mw 63 12 62 true, IG 64 (.fieldAddr 1) [T 11] 62 true, IG 65 .load1 [T 64] 62 true, IG 66 (.bin .lss) [T 63, T 65] 62 true, I 67 .pick [T 62, T 66, Tf]])
 (.cond (T 67)
 (.skip)
 (.exit 2)))
 (.seq (.block 3 (.region [Ld 70 10, Mv 71 12, I 72 (.bslice 3 1 1 (.vals [Zi]) [0]) [T 71], I 73 (.append 3 1 8 (.vals [Zi])) [T 70, T 72], J (.store 1) [T 10, T 73]]))
 (.region [Mv 68 12, Bi 69 .add (T 68) (N 1), Mv 12 69]))
def c_spread_Counts_Add_A0 : ACode :=
 .region [I 11 (.alloc 323 3 (.vals [Zi, Zi, Zi])) [], J (.store 3) [T 11, T 38]]
def c_spread_Counts_Add_B0 : ACode :=
 .block 1 (.seq (.seq (.region [Ld 39 7, Fa 40 2 11, Ld 41 40, I 42 (.un .neg) [T 41], Bi 43 .lss (T 39) (T 42), Mv 44 43, IG 45 .load1 [T 7] 44 false, IG 46 (.fieldAddr 2) [T 11] 44 false, IG 47 .load1 [T 46] 44 false, IG 48 (.bin .sub) [N 1000000, T 47] 44 false, IG 49 (.bin .gtr) [T 45, T 48] 44 false, I 50 .pick [T 44, Tt, T 49]])
 (.cond (T 50)
 (.seq (.region [J (.store 1) [T 8, .lit .nilsl], J (.store 1) [T 9, N 2]])
 (.ret))
 (.skip)))
 (.seq (.region [Fa 51 0 11, Ld 52 51, Mv 12 52])
 (.block 2 (.loop c_spread_Counts_Add_L1))))
def c_spread_Counts_Add_L2 : ACode :=
 .seq (.region [Bi 87 .lss (T 86) (T 85)])
 (.seq (.cond (T 87)
 (.skip)
 (.exit 4))
 (.seq (.block 5 (.seq (.region [Mv 88 86, I 89 (.indexs 3) [T 84, T 86], I 90 (.loadn 3) [T 89], I 15 (.alloc 323 3 (.vals [Zi, Zi, Zi])) [], Mv 14 88, J (.store 3) [T 15, T 90]])
 (.seq (.region [Fa 91 0 15, Ld 92 91, Mv 93 1, Bi 94 .geq (T 92) (T 93), Mv 95 94, IG 96 (.fieldAddr 1) [T 15] 95 true, IG 97 .load1 [T 96] 95 true, Mw 98 2 95 true, IG 99 (.bin .leq) [T 97, T 98] 95 true, I 100 .pick [T 95, T 99, Tf]])
 (.cond (T 100)
 (.draw [[⟨0, Mv 101 13, [], false⟩, ⟨1, Mv 102 14, [], false⟩, ⟨2, I 103 (.indexs 3) [T 101, T 102], [], false⟩, ⟨3, Fa 104 2 103, [], false⟩, ⟨4, Ld 105 104, [], false⟩, ⟨5, Ld 106 7, [], false⟩, ⟨6, Bi 107 .add (T 105) (T 106), [], false⟩, ⟨7, I 108 (.indexs 3) [T 101, T 102], [], false⟩, ⟨8, Fa 109 2 108, [], false⟩, ⟨9, J (.store 1) [T 109, T 107], [], false⟩]])
 (.skip)))))
 (.region [Bi 110 .add (T 86) (N 1), Mv 86 110])))
def c_spread_Counts_Add : AFn := ⟨117, [.cell 8 .load1, .cell 9 .load1], .seq (.region [I 7 (.box 3 1) [T 3], I 8 (.alloc 34 1 (.vals [.nilsl])) [], I 9 (.alloc 24 1 (.vals [Zi])) []])
 (.seq (.seq (.region [Mv 16 0, Kc 17 [F 278, T 16], I 18 (.un .not) [T 17]])
 (.cond (T 18)
 (.seq (.region [J (.store 1) [T 8, .lit .nilsl], J (.store 1) [T 9, N 1]])
 (.ret))
 (.skip)))
 (.seq (.seq (.region [Mv 19 1, Bi 20 .lss (T 19) (N 0), Mv 21 20, Mw 22 2 21 false, Mw 23 0 21 false, IG 24 .nilCheck [T 23] 21 false, IG 25 (.fieldAddr 1) [T 24] 21 false, IG 26 .load1 [T 25] 21 false, IG 27 (.bin .gtr) [T 22, T 26] 21 false, I 28 .pick [T 21, Tt, T 27], Mv 29 28, Mw 30 1 29 false, Mw 31 2 29 false, IG 32 (.bin .gtr) [T 30, T 31] 29 false, I 33 .pick [T 29, Tt, T 32]])
 (.cond (T 33)
 (.seq (.region [J (.store 1) [T 8, .lit .nilsl], J (.store 1) [T 9, N 2]])
 (.ret))
 (.skip)))
 (.seq (.region [I 10 (.alloc 34 1 (.vals [.nilsl])) []])
 (.seq (.seq (.region [Mv 34 0, Mv 35 1, Mv 36 2, Kc 37 [F 279, T 34, T 35, T 36]])
 (.block 0 (.rfun (T 37) [38] c_spread_Counts_Add_A0 c_spread_Counts_Add_B0)))
 (.seq (.region [Mv 74 0, Nc 75 74, Fa 76 0 75, Ld 77 76, Mv 78 1, Kc 79 [F 280, T 77, T 78], Mv 80 2, Kc 81 [F 280, T 79, T 80], Mv 13 81])
 (.seq (.region [Mv 82 13, Kc 83 [F 281, T 82], Mv 13 83])
 (.seq (.seq (.region [Mv 84 13, I 85 .lens [T 84], Mn 86 0])
 (.block 4 (.loop c_spread_Counts_Add_L2)))
 (.seq (.region [Mv 111 0, Mv 112 13, Kc 113 [F 282, T 112], Nc 114 111, Fa 115 0 114, J (.store 1) [T 115, T 113]])
 (.seq (.region [Ld 116 10, J (.store 1) [T 8, T 116], J (.store 1) [T 9, N 0]])
 (.ret))))))))))⟩
abbrev n_slices_Index_amap_one_amap_one : Nat := 187
def c_slices_Index_amap_one_amap_one_L0 : ACode :=
 .seq (.region [Bi 9 .lss (T 8) (T 7)])
 (.seq (.cond (T 9)
 (.skip)
 (.exit 0))
 (.seq (.block 1 (.seq (.region [Mv 10 8, Mv 5 10])
 (.seq (.region [Mv 11 1, Mv 12 0, Mv 13 5, I 14 (.indexs 1) [T 12, T 13], Ld 15 14, I 16 (.eqv false .ptr) [T 11, T 15]])
 (.cond (T 16)
 (.seq (.region [Mv 17 5, Mv 4 17])
 (.ret))
 (.skip)))))
 (.region [Bi 18 .add (T 8) (N 1), Mv 8 18])))
def c_slices_Index_amap_one_amap_one : AFn := ⟨19, [.tmp 4], .seq (.region [Mn 4 0])
 (.seq (.seq (.region [Mv 6 0, I 7 .lens [T 6], Mn 8 0])
 (.block 0 (.loop c_slices_Index_amap_one_amap_one_L0)))
 (.seq (.region [Mn 4 (-1)])
 (.ret)))⟩
abbrev n_amap_Pool_Set : Nat := 189
def c_amap_Pool_Set : AFn := ⟨48, [.tmp 8, .tmp 9], .seq (.region [Mn 8 0, Mn 9 0])
 (.seq (.region [Mv 14 0, Mv 15 1, Kc 16 [F 270, T 14, T 15], Mv 13 16, Xt 17 0 13, Xt 18 1 13, Mv 10 17, Mv 11 18])
 (.seq (.block 0 (.seq (.region [Mv 20 11, Bi 21 .neq (T 20) (N 0), Mv 19 21])
 (.cond (T 19)
 (.seq (.region [Mv 22 11, Mn 8 0, Mv 9 22])
 (.ret))
 (.seq (.region [Mv 24 0, Mv 25 1, Mv 26 2, Kc 27 [F 267, T 24, T 25, T 26], Bi 28 .eql (T 27) (N 0), Mv 29 28, Mw 30 3 29 false, IG 31 (.bin .lss) [T 30, N 0] 29 false, I 32 .pick [T 29, Tt, T 31], Mv 23 32])
 (.cond (T 23)
 (.seq (.region [Mn 8 0, Mn 9 2])
 (.ret))
 (.skip))))))
 (.seq (.region [Mv 33 10, Nc 34 33, Fa 35 1 34, Ld 36 35, Mv 37 2, I 38 (.indexs 1) [T 36, T 37], Ld 39 38, Mv 12 39])
 (.seq (.region [Mv 40 10, Nc 41 40, Fa 42 1 41, Ld 43 42, Mv 44 2, Mv 45 3, I 46 (.indexs 1) [T 43, T 44], J (.store 1) [T 46, T 45]])
 (.seq (.region [Mv 47 12, Mv 8 47, Mn 9 0])
 (.ret))))))⟩
abbrev n_anon_Pool_Make : Nat := 190
def c_anon_Pool_Make : AFn := ⟨51, [.tmp 4, .tmp 5], .seq (.region [Mn 4 0, Mn 5 0])
 (.seq (.block 0 (.seq (.region [Mv 8 0, Kc 9 [F 124, T 8], I 10 (.un .not) [T 9], Mv 7 10])
 (.cond (T 7)
 (.seq (.region [Mn 4 0, Mn 5 1])
 (.ret))
 (.seq (.draw [[⟨0, Mv 12 0, [], false⟩, ⟨1, Nc 13 12, [], false⟩, ⟨2, Fa 14 2 13, [], false⟩, ⟨3, Ld 15 14, [], false⟩, ⟨4, I 16 (.lenm) [T 15], [], false⟩, ⟨5, Mv 17 0, [], false⟩, ⟨6, Nc 18 17, [], false⟩, ⟨7, Fa 19 0 18, [], false⟩, ⟨8, Ld 20 19, [], false⟩, ⟨9, Bi 21 .geq (T 16) (T 20), [], false⟩, ⟨10, Mv 11 21, [], false⟩]])
 (.cond (T 11)
 (.seq (.region [Mn 4 0, Mn 5 5])
 (.ret))
 (.skip))))))
 (.seq (.region [Mn 6 0])
 (.seq (.seq (.region [Mv 22 0, Nc 23 22, Fa 24 3 23, Ld 25 24, I 26 .lens [T 25], Bi 27 .gtr (T 26) (N 0)])
 (.cond (T 27)
 (.region [Mv 28 0, Nc 29 28, Fa 30 3 29, Kc 31 [F 283, T 30], Mv 6 31])
 (.seq (.region [Mv 32 0, Nc 33 32, Fa 34 4 33, Ld 35 34, Bi 36 .add (T 35) (N 1), Nc 37 32, Fa 38 4 37, J (.store 1) [T 38, T 36]])
 (.region [Mv 39 0, Nc 40 39, Fa 41 4 40, Ld 42 41, Mv 6 42]))))
 (.seq (.region [Mv 43 0, Nc 44 43, Fa 45 2 44, Ld 46 45, Mv 47 6, Mv 48 1, I 49 (.build (.agg [Zi, Zi, Zi]) [(0, 1), (1, 1), (2, 1)]) [N 1, T 48, N (-1)], J (.mapput (.scal .int)) [T 46, T 47, T 49]])
 (.seq (.region [Mv 50 6, Mv 4 50, Mn 5 0])
 (.ret))))))⟩
abbrev n_frames_Pool_Own : Nat := 191
def c_frames_Pool_Own : AFn := ⟨15, [.tmp 10], .seq (.region [I 7 (.box 3 1) [T 2], I 8 (.box 3 1) [T 3], I 9 (.box 3 1) [T 4], Mn 10 0])
 (.seq (.region [Mv 11 0, Mv 12 1, I 13 (.mkfunc 284 0) [T 7, T 8, T 9], Kc 14 [F 217, T 11, T 12, T 13], Mv 10 14])
 (.ret))⟩
abbrev n_amap_Pool_Drop : Nat := 192
def c_amap_Pool_Drop_L0 : ACode :=
 .seq (.region [Bi 46 .lss (T 45) (T 44)])
 (.seq (.cond (T 46)
 (.skip)
 (.exit 0))
 (.seq (.block 1 (.seq (.region [I 47 (.indexs 1) [T 43, T 45], Ld 48 47, Mv 15 48])
 (.seq (.seq (.region [Mv 49 10, Nc 50 49, Fa 51 1 50, Ld 52 51, Mv 53 15, I 54 (.indexs 1) [T 52, T 53], Ld 55 54, Bi 56 .gtr (T 55) (N 0)])
 (.cond (T 56)
 (.region [Mv 57 13, Mv 58 10, Nc 59 58, Fa 60 1 59, Ld 61 60, Mv 62 15, I 63 (.indexs 1) [T 61, T 62], Ld 64 63, I 65 (.bslice 3 1 1 (.vals [Zi]) [0]) [T 64], I 66 (.append 3 1 8 (.vals [Zi])) [T 57, T 65], Mv 13 66])
 (.skip)))
 (.region [Mv 67 10, Nc 68 67, Fa 69 1 68, Ld 70 69, Mv 71 15, I 72 (.indexs 1) [T 70, T 71], J (.store 1) [T 72, N 0]]))))
 (.region [Bi 73 .add (T 45) (N 1), Mv 45 73])))
def c_amap_Pool_Drop : AFn := ⟨95, [.tmp 8, .tmp 9], .seq (.region [I 8 .mv [.lit .nilsl], Mn 9 0])
 (.seq (.region [Mv 17 0, Mv 18 1, Kc 19 [F 270, T 17, T 18], Mv 16 19, Xt 20 0 16, Xt 21 1 16, Mv 10 20, Mv 11 21])
 (.seq (.seq (.region [Mv 22 11, Bi 23 .neq (T 22) (N 0)])
 (.cond (T 23)
 (.seq (.region [Mv 24 11, I 8 .mv [.lit .nilsl], Mv 9 24])
 (.ret))
 (.skip)))
 (.seq (.seq (.region [Mv 25 10, Mv 26 2, Mv 27 3, Kc 28 [F 271, T 25, T 26, T 27], I 29 (.un .not) [T 28]])
 (.cond (T 29)
 (.seq (.region [I 8 .mv [.lit .nilsl], Mn 9 2])
 (.ret))
 (.skip)))
 (.seq (.region [Mv 31 10, Nc 32 31, Fa 33 0 32, Ld 34 33, Mv 35 2, Mv 36 3, Kc 37 [F 186, T 34, T 35, T 36, N (-1)], Mv 30 37, Xt 38 0 30, Xt 39 1 30, Mv 12 38, Mv 11 39])
 (.seq (.seq (.region [Mv 40 11, Bi 41 .neq (T 40) (N 0)])
 (.cond (T 41)
 (.seq (.region [Mv 42 11, I 8 .mv [.lit .nilsl], Mv 9 42])
 (.ret))
 (.skip)))
 (.seq (.region [I 13 .mv [.lit .nilsl]])
 (.seq (.seq (.region [Mv 43 12, I 44 .lens [T 43], Mn 45 0])
 (.block 0 (.loop c_amap_Pool_Drop_L0)))
 (.seq (.seq (.region [Mv 74 10, Nc 75 74, Fa 76 0 75, Ld 77 76, Kc 78 [F 285, T 77], Bi 79 .eql (T 78) (N 0)])
 (.cond (T 79)
 (.seq (.region [Mv 80 0, Nc 81 80, Fa 82 2 81, Ld 83 82, Mv 84 1, Bi 85 .sub (T 84) (N 1), I 86 (.indexs 1) [T 83, T 85], J (.store 1) [T 86, .lit .nilptr]])
 (.region [Mv 87 0, Nc 88 87, Fa 89 3 88, Ld 90 89, Bi 91 .sub (T 90) (N 1), Nc 92 87, Fa 93 3 92, J (.store 1) [T 93, T 91]]))
 (.skip)))
 (.seq (.region [Mv 94 13, Mv 8 94, Mn 9 0])
 (.ret))))))))))⟩
abbrev n_kern_Kernel_drop : Nat := 193
def c_kern_Kernel_drop : AFn := ⟨39, [], .seq (.region [Mv 7 0, Nc 8 7, Fa 9 5 8, Ld 10 9, Mv 11 1, Kc 12 [F 269, T 10, T 11, N (-1)], Mv 6 12, Xt 13 0 6, Xt 14 1 6, I 4 (.alloc 103 3 (.vals [Zi, Zi, Zi])) [], J (.store 3) [T 4, T 13], Mv 5 14])
 (.seq (.seq (.region [Mv 15 5, Bi 16 .neq (T 15) (N 0), Mv 17 16, IG 18 (.fieldAddr 0) [T 4] 17 false, IG 19 .load1 [T 18] 17 false, IG 20 (.bin .gtr) [T 19, N 0] 17 false, I 21 .pick [T 17, Tt, T 20]])
 (.cond (T 21)
 (.ret)
 (.skip)))
 (.seq (.seq (.region [Fa 22 1 4, Ld 23 22, Bi 24 .geq (T 23) (N 0)])
 (.cond (T 24)
 (.region [Mv 25 0, Fa 26 1 4, Ld 27 26, Kc 28 [F 109, T 25, T 27]])
 (.skip)))
 (.seq (.region [Fa 29 2 4, Ld 30 29, Bi 31 .geq (T 30) (N 0)])
 (.cond (T 31)
 (.draw [[⟨0, Mv 32 0, [], false⟩, ⟨1, Nc 33 32, [], false⟩, ⟨2, Fa 34 3 33, [], false⟩, ⟨3, Ld 35 34, [], false⟩, ⟨4, Fa 36 2 4, [], false⟩, ⟨5, Ld 37 36, [], false⟩, ⟨6, Kc 38 [F 152, T 35, T 37], [], false⟩]])
 (.skip)))))⟩
abbrev n_slices_IndexFunc_kern_area_kern_area : Nat := 194
def c_slices_IndexFunc_kern_area_kern_area_L0 : ACode :=
 .seq (.region [Bi 9 .lss (T 8) (T 7)])
 (.seq (.cond (T 9)
 (.skip)
 (.exit 0))
 (.seq (.block 1 (.seq (.region [Mv 10 8, Mv 5 10])
 (.seq (.region [Mv 11 1, Mv 12 0, Mv 13 5, I 14 (.indexs 6) [T 12, T 13], I 15 (.loadn 6) [T 14], Kc 16 [T 11, T 15]])
 (.cond (T 16)
 (.seq (.region [Mv 17 5, Mv 4 17])
 (.ret))
 (.skip)))))
 (.region [Bi 18 .add (T 8) (N 1), Mv 8 18])))
def c_slices_IndexFunc_kern_area_kern_area : AFn := ⟨19, [.tmp 4], .seq (.region [Mn 4 0])
 (.seq (.seq (.region [Mv 6 0, I 7 .lens [T 6], Mn 8 0])
 (.block 0 (.loop c_slices_IndexFunc_kern_area_kern_area_L0)))
 (.seq (.region [Mn 4 (-1)])
 (.ret)))⟩
end Go.Proofs.YtlkfclgkinaibaaGreat
