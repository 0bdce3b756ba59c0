/- BY PROGRAM (wip/tool/shake.py): own texts, one behind the other, without what is not needed. -/
import Derived.Control
import Derived.Calls
import Derived.KernelRfl
import Derived.Laws.Sem
import Derived.Laws.Cells
import Derived.Laws.World
import GoSem.Dispatch
import Derived.Laws.StructEq
import Derived.IntWalk
import Derived.WideKeyRuns
import Derived.Laws.BytesArg
import Derived.Orders
import Derived.ChangeArms
import Derived.OpenShut
import Derived.ChangeShapes
import Derived.ProofKit
import Derived.Test.YtlkfclgkinaibaaGreatProg
import Derived.Test.YtlkfclgkinaibaaGreatZKCT4

namespace Go.Proofs.YtlkfclgkinaibaaGreat
abbrev n_slices_Insert_kern_area_kern_area : Nat := 196
def c_slices_Insert_kern_area_kern_area : AFn := ⟨95, [.tmp 6], .seq (.region [I 6 .mv [.lit .nilsl]])
 (.seq (.region [Mv 10 0, Mv 11 1, I 12 (.slice 6 true false false) [T 10, T 11]])
 (.seq (.region [Mv 13 2, I 14 .lens [T 13], Mv 7 14])
 (.seq (.seq (.region [Mv 15 7, Bi 16 .eql (T 15) (N 0)])
 (.cond (T 16)
 (.seq (.region [Mv 17 0, Mv 6 17])
 (.ret))
 (.skip)))
 (.seq (.region [Mv 18 0, I 19 .lens [T 18], Mv 8 19])
 (.seq (.seq (.region [Mv 20 1, Mv 21 8, Bi 22 .eql (T 20) (T 21)])
 (.cond (T 22)
 (.seq (.region [Mv 23 0, Mv 24 2, I 25 (.append 168 6 40 (.vals [Zi, Zi, Zi, Zi, (.bool false), (.bool false)])) [T 23, T 24], Mv 6 25])
 (.ret))
 (.skip)))
 (.seq (.seq (.region [Mv 26 8, Mv 27 7, Bi 28 .add (T 26) (T 27), Mv 29 0, I 30 (.cap) [T 29], Bi 31 .gtr (T 28) (T 30)])
 (.cond (T 31)
 (.seq (.region [Mv 32 0, Mv 33 1, I 34 (.slice 6 false true false) [T 32, T 33], Mv 35 8, Mv 36 7, Bi 37 .add (T 35) (T 36), Mv 38 1, Bi 39 .sub (T 37) (T 38), I 40 (.appendz 168 6 40 (.vals [Zi, Zi, Zi, Zi, (.bool false), (.bool false)])) [T 34, T 39], Mv 9 40])
 (.seq (.region [Mv 41 9, Mv 42 1, I 43 (.slice 6 true false false) [T 41, T 42], Mv 44 2, I 45 (.copy 6) [T 43, T 44]])
 (.seq (.draw [[⟨0, Mv 46 9, [], false⟩, ⟨1, Mv 47 1, [], false⟩, ⟨2, Mv 48 7, [], false⟩, ⟨3, Bi 49 .add (T 47) (T 48), [], false⟩, ⟨4, I 50 (.slice 6 true false false) [T 46, T 49], [], false⟩, ⟨5, Mv 51 0, [], false⟩, ⟨6, Mv 52 1, [], false⟩, ⟨7, I 53 (.slice 6 true false false) [T 51, T 52], [], false⟩, ⟨8, I 54 (.copy 6) [T 50, T 53], [], false⟩]])
 (.seq (.region [Mv 55 9, Mv 6 55])
 (.ret)))))
 (.skip)))
 (.seq (.region [Mv 56 0, Mv 57 8, Mv 58 7, Bi 59 .add (T 57) (T 58), I 60 (.slice 6 false true false) [T 56, T 59], Mv 0 60])
 (.seq (.seq (.region [Mv 61 2, Mv 62 0, Mv 63 1, Mv 64 7, Bi 65 .add (T 63) (T 64), I 66 (.slice 6 true false false) [T 62, T 65], Kc 67 [F 286, T 61, T 66], I 68 (.un .not) [T 67]])
 (.cond (T 68)
 (.seq (.draw [[⟨0, Mv 69 0, [], false⟩, ⟨1, Mv 70 1, [], false⟩, ⟨2, Mv 71 7, [], false⟩, ⟨3, Bi 72 .add (T 70) (T 71), [], false⟩, ⟨4, I 73 (.slice 6 true false false) [T 69, T 72], [], false⟩, ⟨5, Mv 74 0, [], false⟩, ⟨6, Mv 75 1, [], false⟩, ⟨7, I 76 (.slice 6 true false false) [T 74, T 75], [], false⟩, ⟨8, I 77 (.copy 6) [T 73, T 76], [], false⟩]])
 (.seq (.region [Mv 78 0, Mv 79 1, I 80 (.slice 6 true false false) [T 78, T 79], Mv 81 2, I 82 (.copy 6) [T 80, T 81]])
 (.seq (.region [Mv 83 0, Mv 6 83])
 (.ret))))
 (.skip)))
 (.seq (.region [Mv 84 0, Mv 85 8, I 86 (.slice 6 true false false) [T 84, T 85], Mv 87 2, I 88 (.copy 6) [T 86, T 87]])
 (.seq (.region [Mv 89 0, Mv 90 1, I 91 (.slice 6 true false false) [T 89, T 90], Mv 92 7, Kc 93 [F 287, T 91, T 92]])
 (.seq (.region [Mv 94 0, Mv 6 94])
 (.ret))))))))))))⟩
abbrev n_kern_Kernel_out : Nat := 200
def c_kern_Kernel_out : AFn := ⟨23, [], .seq (.region [Mv 6 1, Nc 7 6, Fa 8 2 7, Ld 9 8, Mv 10 2, Kc 11 [F 290, T 9, T 10]])
 (.draw [[⟨0, Mv 12 0, [], false⟩, ⟨1, Nc 13 12, [], false⟩, ⟨2, Fa 14 8 13, [], false⟩, ⟨3, Ld 15 14, [], false⟩, ⟨4, Mv 16 1, [], false⟩, ⟨5, Nc 17 16, [], false⟩, ⟨6, Fa 18 0 17, [], false⟩, ⟨7, Ld 19 18, [], false⟩, ⟨8, Mv 20 2, [], false⟩, ⟨9, I 21 (.build (.agg [Zi, Zi]) [(0, 1), (1, 1)]) [T 19, T 20], [], false⟩, ⟨10, Kc 22 [F 143, T 15, T 21], [], false⟩]])⟩
abbrev n_kern_Kernel_put : Nat := 205
def c_kern_Kernel_put : AFn := ⟨52, [], .seq (.draw [[⟨0, Mv 11 1, [], false⟩, ⟨1, Nc 12 11, [], false⟩, ⟨2, Fa 13 3 12, [], false⟩, ⟨3, Ld 14 13, [], false⟩, ⟨4, Mv 15 2, [], false⟩, ⟨5, Bi 16 .add (T 14) (T 15), [], false⟩, ⟨6, Mv 17 1, [], false⟩, ⟨7, Nc 18 17, [], false⟩, ⟨8, Fa 19 0 18, [], false⟩, ⟨9, Ld 20 19, [], false⟩, ⟨10, Bi 21 .sub (T 16) (T 20), [], false⟩, ⟨11, Mv 8 21, [], false⟩]])
 (.seq (.draw [[⟨0, Mv 23 0, [], false⟩, ⟨1, Nc 24 23, [], false⟩, ⟨2, Fa 25 6 24, [], false⟩, ⟨3, Ld 26 25, [], false⟩, ⟨4, Mv 27 1, [], false⟩, ⟨5, Nc 28 27, [], false⟩, ⟨6, Fa 29 2 28, [], false⟩, ⟨7, Ld 30 29, [], false⟩, ⟨8, Mv 31 8, [], false⟩, ⟨9, Mv 32 3, [], false⟩, ⟨10, Kc 33 [F 189, T 26, T 30, T 31, T 32], [], false⟩, ⟨11, Mv 22 33, [], false⟩, ⟨12, Xt 34 0 22, [], false⟩, ⟨13, Xt 35 1 22, [], false⟩, ⟨14, Mv 9 34, [], false⟩, ⟨15, Mv 10 35, [], false⟩]])
 (.seq (.seq (.region [Mv 36 1, Nc 37 36, Fa 38 5 37, Ld 39 38])
 (.cond (T 39)
 (.region [Mv 40 0, Mv 41 1, Nc 42 41, Fa 43 2 42, Ld 44 43, Mv 45 8, Kc 46 [F 292, T 40, T 44, T 45]])
 (.skip)))
 (.seq (.region [Mv 47 9, Bi 48 .gtr (T 47) (N 0)])
 (.cond (T 48)
 (.region [Mv 49 0, Mv 50 9, Kc 51 [F 193, T 49, T 50]])
 (.skip)))))⟩
abbrev n_slots_Slots_Take : Nat := 211
def c_slots_Slots_Take : AFn := ⟨8, [.tmp 2, .tmp 3], .seq (.region [Mn 2 0, I 3 .mv [Tf]])
 (.seq (.region [Mv 4 0, Kc 5 [F 293, T 4, N 1], Xt 6 0 5, Xt 7 1 5, Mv 2 6, Mv 3 7])
 (.ret))⟩
abbrev n_swap_Device_Write : Nat := 212
def c_swap_Device_Write : AFn := ⟨29, [.tmp 6], .seq (.region [Mn 6 0])
 (.seq (.seq (.region [Mv 8 0, Mv 9 1, Mv 10 2, I 11 .lens [T 10], Bi 12 .eql (T 11) (N 4096), Kc 13 [F 229, T 8, T 9, T 12], Mv 7 13])
 (.seq (.region [Mv 14 7, Bi 15 .neq (T 14) (N 0)])
 (.cond (T 15)
 (.seq (.region [Mv 16 7, Mv 6 16])
 (.ret))
 (.skip))))
 (.seq (.seq (.region [Mv 17 0, Nc 18 17, Fa 19 3 18, Kc 20 [F 294, T 19]])
 (.cond (T 20)
 (.seq (.region [Mn 6 6])
 (.ret))
 (.skip)))
 (.seq (.draw [[⟨0, Mv 21 0, [], false⟩, ⟨1, Nc 22 21, [], false⟩, ⟨2, Fa 23 2 22, [], false⟩, ⟨3, Ld 24 23, [], false⟩, ⟨4, Mv 25 1, [], false⟩, ⟨5, Mv 26 2, [], false⟩, ⟨6, I 27 (.sl2arr 4096) [T 26], [], false⟩, ⟨7, I 28 (.loadn 4096) [T 27], [], false⟩, ⟨8, J (.mapput (.scal .int)) [T 24, T 25, T 28], [], false⟩]])
 (.seq (.region [Mn 6 0])
 (.ret)))))⟩
abbrev n_object_Pool_made : Nat := 214
def c_object_Pool_made : AFn := ⟨11, [.tmp 2], .seq (.region [I 2 .mv [Tf]])
 (.seq (.region [Mv 3 0, I 4 (.eqv true .ptr) [T 3, .lit .nilptr], Mv 5 4, Mw 6 0 5 true, IG 7 .nilCheck [T 6] 5 true, IG 8 (.fieldAddr 1) [T 7] 5 true, IG 9 .load1 [T 8] 5 true, I 10 .pick [T 5, T 9, Tf], Mv 2 10])
 (.ret))⟩
abbrev n_anon_Pool_change : Nat := 215
def c_anon_Pool_change : AFn := ⟨53, [.cell 6 (.loadn 3), .tmp 7], .seq (.region [I 6 (.alloc 103 3 (.vals [Zi, Zi, Zi])) [], Mn 7 0])
 (.seq (.seq (.region [Mv 11 0, Kc 12 [F 124, T 11], I 13 (.un .not) [T 12]])
 (.cond (T 13)
 (.seq (.region [I 14 (.build (.agg [Zi, Zi, Zi]) []) [], J (.store 3) [T 6, T 14], Mn 7 1])
 (.ret))
 (.skip)))
 (.seq (.region [Mv 16 0, Nc 17 16, Fa 18 2 17, Ld 19 18, Mv 20 1, I 21 (.lookup (.scal .int) (.agg [Zi, Zi, Zi]) true) [T 19, T 20], Mv 15 21, Xt 22 0 15, Xt 23 1 15, I 8 (.alloc 103 3 (.vals [Zi, Zi, Zi])) [], J (.store 3) [T 8, T 22], Mv 9 23])
 (.seq (.seq (.region [Mv 24 9, I 25 (.un .not) [T 24]])
 (.cond (T 25)
 (.seq (.region [I 26 (.build (.agg [Zi, Zi, Zi]) []) [], J (.store 3) [T 6, T 26], Mn 7 7])
 (.ret))
 (.skip)))
 (.seq (.seq (.region [Mv 27 2, Kc 28 [T 27, T 8], Mv 10 28])
 (.seq (.region [Mv 29 10, Bi 30 .neq (T 29) (N 0)])
 (.cond (T 30)
 (.seq (.region [I 31 (.build (.agg [Zi, Zi, Zi]) []) [], Mv 32 10, J (.store 3) [T 6, T 31], Mv 7 32])
 (.ret))
 (.skip))))
 (.seq (.draw [[⟨0, Mv 33 0, [], false⟩, ⟨1, Nc 34 33, [], false⟩, ⟨2, Fa 35 2 34, [], false⟩, ⟨3, Ld 36 35, [], false⟩, ⟨4, Mv 37 1, [], false⟩, ⟨5, I 38 (.loadn 3) [T 8], [], false⟩, ⟨6, J (.mapput (.scal .int)) [T 36, T 37, T 38], [], false⟩]])
 (.seq (.seq (.region [Fa 39 0 8, Ld 40 39, Bi 41 .eql (T 40) (N 0)])
 (.cond (T 41)
 (.seq (.region [Mv 42 0, Nc 43 42, Fa 44 2 43, Ld 45 44, Mv 46 1, J (.delete (.scal .int)) [T 45, T 46]])
 (.region [Mv 47 0, Nc 48 47, Fa 49 3 48, Mv 50 1, Kc 51 [F 296, T 49, T 50]]))
 (.skip)))
 (.seq (.region [I 52 (.loadn 3) [T 8], J (.store 3) [T 6, T 52], Mn 7 0])
 (.ret))))))))⟩
abbrev n_anon_Pool_Put_1 : Nat := 216
def c_anon_Pool_Put_1 : AFn := ⟨13, [.tmp 4], .seq (.region [Mn 4 0])
 (.seq (.draw [[⟨0, Mv 5 0, [], false⟩, ⟨1, Mv 6 0, [], false⟩, ⟨2, Ld 7 1, [], false⟩, ⟨3, Ld 8 2, [], false⟩, ⟨4, Nc 9 5, [], false⟩, ⟨5, Fa 10 1 9, [], false⟩, ⟨6, J (.store 1) [T 10, T 7], [(3, Ld 8 2)], false⟩, ⟨7, Nc 11 6, [], false⟩, ⟨8, Fa 12 2 11, [], false⟩, ⟨9, J (.store 1) [T 12, T 8], [], false⟩]])
 (.seq (.region [Mn 4 0])
 (.ret)))⟩
abbrev n_frames_Pool_with : Nat := 217
def c_frames_Pool_with : AFn := ⟨41, [.tmp 6], .seq (.region [Mn 6 0])
 (.seq (.block 0 (.seq (.region [Mv 8 0, Kc 9 [F 103, T 8], I 10 (.un .not) [T 9], Mv 7 10])
 (.cond (T 7)
 (.seq (.region [Mn 6 1])
 (.ret))
 (.seq (.region [Mv 12 1, Bi 13 .lss (T 12) (N 0), Mv 14 13, Mw 15 1 14 false, Mw 16 0 14 false, IG 17 .nilCheck [T 16] 14 false, IG 18 (.fieldAddr 0) [T 17] 14 false, IG 19 .load1 [T 18] 14 false, IG 20 .lens [T 19] 14 false, IG 21 (.bin .geq) [T 15, T 20] 14 false, I 22 .pick [T 14, Tt, T 21], Mv 11 22])
 (.cond (T 11)
 (.seq (.region [Mn 6 7])
 (.ret))
 (.seq (.region [Mv 24 0, Nc 25 24, Fa 26 0 25, Ld 27 26, Mv 28 1, I 29 (.indexs 5) [T 27, T 28], Fa 30 0 29, Ld 31 30, Bi 32 .eql (T 31) (N 0), Mv 23 32])
 (.cond (T 23)
 (.seq (.region [Mn 6 2])
 (.ret))
 (.skip))))))))
 (.seq (.region [Mv 33 2, Mv 34 0, Nc 35 34, Fa 36 0 35, Ld 37 36, Mv 38 1, I 39 (.indexs 5) [T 37, T 38], Kc 40 [T 33, T 39], Mv 6 40])
 (.ret)))⟩
abbrev n_frames_Pool_Give_1 : Nat := 220
def c_frames_Pool_Give_1 : AFn := ⟨18, [.tmp 2], .seq (.region [Mn 2 0])
 (.seq (.seq (.region [Mv 3 0, Nc 4 3, Fa 5 3 4, Ld 6 5, Bi 7 .neq (T 6) (N 0), Mv 8 7, Mw 9 0 8 false, IG 10 .nilCheck [T 9] 8 false, IG 11 (.fieldAddr 4) [T 10] 8 false, IG 12 .load1 [T 11] 8 false, IG 13 (.bin .neq) [T 12, N 0] 8 false, I 14 .pick [T 8, Tt, T 13]])
 (.cond (T 14)
 (.seq (.region [Mn 2 8])
 (.ret))
 (.skip)))
 (.seq (.region [Mv 15 0, I 16 (.build (.agg [Zi, Zi, Zi, Zi, Zi]) []) [], Nc 17 15, J (.store 5) [T 17, T 16]])
 (.seq (.region [Mn 2 0])
 (.ret))))⟩
abbrev n_slices_AppendSeq_int_int : Nat := 221
def c_slices_AppendSeq_int_int_A0 : ACode :=
 .region [Mv 5 7]
def c_slices_AppendSeq_int_int_B0 : ACode :=
 .block 1 (.region [Ld 8 2, Mv 9 5, I 10 (.bslice 3 1 1 (.vals [Zi]) [0]) [T 9], I 11 (.append 3 1 8 (.vals [Zi])) [T 8, T 10], J (.store 1) [T 2, T 11]])
def c_slices_AppendSeq_int_int : AFn := ⟨13, [.tmp 4], .seq (.region [I 2 (.box 34 1) [T 0], I 4 .mv [.lit .nilsl]])
 (.seq (.seq (.region [Mv 6 1])
 (.block 0 (.rfun (T 6) [7] c_slices_AppendSeq_int_int_A0 c_slices_AppendSeq_int_int_B0)))
 (.seq (.region [Ld 12 2, Mv 4 12])
 (.ret)))⟩
abbrev n_slices_pdqsortOrdered_int : Nat := 222
def c_slices_pdqsortOrdered_int_L0 : ACode :=
 .block 1 (.seq (.region [Mv 19 2, Mv 20 1, Bi 21 .sub (T 19) (T 20), Mv 10 21])
 (.seq (.seq (.region [Mv 22 10, Bi 23 .leq (T 22) (N 12)])
 (.cond (T 23)
 (.seq (.region [Mv 24 0, Mv 25 1, Mv 26 2, Kc 27 [F 297, T 24, T 25, T 26]])
 (.ret))
 (.skip)))
 (.seq (.seq (.region [Mv 28 3, Bi 29 .eql (T 28) (N 0)])
 (.cond (T 29)
 (.seq (.region [Mv 30 0, Mv 31 1, Mv 32 2, Kc 33 [F 298, T 30, T 31, T 32]])
 (.ret))
 (.skip)))
 (.seq (.seq (.region [Mv 34 8, I 35 (.un .not) [T 34]])
 (.cond (T 35)
 (.seq (.region [Mv 36 0, Mv 37 1, Mv 38 2, Kc 39 [F 299, T 36, T 37, T 38]])
 (.region [Mv 40 3, Bi 41 .sub (T 40) (N 1), Mv 3 41]))
 (.skip)))
 (.seq (.region [Mv 43 0, Mv 44 1, Mv 45 2, Kc 46 [F 300, T 43, T 44, T 45], Mv 42 46, Xt 47 0 42, Xt 48 1 42, Mv 11 47, Mv 12 48])
 (.seq (.seq (.region [Mv 49 12, Bi 50 .eql (T 49) (N 2)])
 (.cond (T 50)
 (.seq (.region [Mv 51 0, Mv 52 1, Mv 53 2, Kc 54 [F 301, T 51, T 52, T 53]])
 (.seq (.region [Mv 55 2, Bi 56 .sub (T 55) (N 1), Mv 57 11, Mv 58 1, Bi 59 .sub (T 57) (T 58), Bi 60 .sub (T 56) (T 59), Mv 11 60])
 (.region [Mn 12 1])))
 (.skip)))
 (.seq (.seq (.region [Mv 61 8, Mv 62 61, Mw 63 9 62 true, I 64 .pick [T 62, T 63, Tf], Mv 65 64, Mw 66 12 65 true, IG 67 (.bin .eql) [T 66, N 1] 65 true, I 68 .pick [T 65, T 67, Tf]])
 (.cond (T 68)
 (.seq (.region [Mv 69 0, Mv 70 1, Mv 71 2, Kc 72 [F 302, T 69, T 70, T 71]])
 (.cond (T 72)
 (.ret)
 (.skip)))
 (.skip)))
 (.seq (.seq (.draw [[⟨0, Mv 73 1, [], false⟩, ⟨1, Bi 74 .gtr (T 73) (N 0), [], false⟩, ⟨2, Mv 75 74, [], false⟩, ⟨3, Mw 76 0 75 true, [], false⟩, ⟨4, Mw 77 1 75 true, [], false⟩, ⟨5, IG 78 (.bin .sub) [T 77, N 1] 75 true, [], false⟩, ⟨6, IG 79 (.indexs 1) [T 76, T 78] 75 true, [], false⟩, ⟨7, IG 80 .load1 [T 79] 75 true, [], false⟩, ⟨8, Mw 81 0 75 true, [], false⟩, ⟨9, Mw 82 11 75 true, [], false⟩, ⟨10, IG 83 (.indexs 1) [T 81, T 82] 75 true, [], false⟩, ⟨11, IG 84 .load1 [T 83] 75 true, [], false⟩, ⟨12, IG 85 .callv [F 303, T 80, T 84] 75 true, [], false⟩, ⟨13, IG 86 (.un .not) [T 85] 75 true, [], false⟩, ⟨14, I 87 .pick [T 75, T 86, Tf], [], false⟩]])
 (.cond (T 87)
 (.seq (.region [Mv 88 0, Mv 89 1, Mv 90 2, Mv 91 11, Kc 92 [F 304, T 88, T 89, T 90, T 91], Mv 13 92])
 (.seq (.region [Mv 93 13, Mv 1 93])
 (.exit 1)))
 (.skip)))
 (.seq (.region [Mv 95 0, Mv 96 1, Mv 97 2, Mv 98 11, Kc 99 [F 305, T 95, T 96, T 97, T 98], Mv 94 99, Xt 100 0 94, Xt 101 1 94, Mv 14 100, Mv 15 101])
 (.seq (.region [Mv 102 15, Mv 9 102])
 (.seq (.region [Mv 103 14, Mv 104 1, Bi 105 .sub (T 103) (T 104), Mv 106 2, Mv 107 14, Bi 108 .sub (T 106) (T 107), Mv 16 105, Mv 17 108])
 (.seq (.region [Mv 109 10, Bi 110 .quo (T 109) (N 8), Mv 18 110])
 (.seq (.region [Mv 111 16, Mv 112 17, Bi 113 .lss (T 111) (T 112)])
 (.cond (T 113)
 (.seq (.region [Mv 114 16, Mv 115 18, Bi 116 .geq (T 114) (T 115), Mv 8 116])
 (.seq (.region [Mv 117 0, Mv 118 1, Mv 119 14, Mv 120 3, Kc 121 [F 222, T 117, T 118, T 119, T 120]])
 (.region [Mv 122 14, Bi 123 .add (T 122) (N 1), Mv 1 123])))
 (.seq (.region [Mv 124 17, Mv 125 18, Bi 126 .geq (T 124) (T 125), Mv 8 126])
 (.seq (.region [Mv 127 0, Mv 128 14, Bi 129 .add (T 128) (N 1), Mv 130 2, Mv 131 3, Kc 132 [F 222, T 127, T 129, T 130, T 131]])
 (.region [Mv 133 14, Mv 2 133])))))))))))))))))
def c_slices_pdqsortOrdered_int : AFn := ⟨134, [], .seq (.region [I 8 .mv [Tt]])
 (.seq (.region [I 9 .mv [Tt]])
 (.block 0 (.loop c_slices_pdqsortOrdered_int_L0)))⟩
abbrev n_math_bits_Len : Nat := 223
def c_math_bits_Len : AFn := ⟨8, [.tmp 2], .seq (.region [Mn 2 0])
 (.seq (.cond (Tf)
 (.seq (.region [Mv 3 0, I 4 (.conv .u32) [T 3], Kc 5 [F 306, T 4], Mv 2 5])
 (.ret))
 (.skip))
 (.seq (.region [Mv 6 0, Kc 7 [F 307, T 6], Mv 2 7])
 (.ret)))⟩
abbrev n_slices_BinarySearchFunc_api_Entry_api_Entry_int : Nat := 224
def c_slices_BinarySearchFunc_api_Entry_api_Entry_int_L0 : ACode :=
 .seq (.seq (.region [Mv 15 9, Mv 16 10, Bi 17 .lss (T 15) (T 16)])
 (.cond (T 17)
 (.skip)
 (.exit 0)))
 (.block 1 (.seq (.region [Mv 18 9, Mv 19 10, Bi 20 .add (T 18) (T 19), I 21 (.conv .u64) [T 20], I 22 (.bin .shr) [T 21, .lit (.int .u64 1)], I 23 (.conv .i64) [T 22], Mv 11 23])
 (.seq (.region [Mv 24 2, Mv 25 0, Mv 26 11, I 27 (.indexs 10) [T 25, T 26], I 28 (.loadn 10) [T 27], Mv 29 1, Kc 30 [T 24, T 28, T 29], Bi 31 .lss (T 30) (N 0)])
 (.cond (T 31)
 (.region [Mv 32 11, Bi 33 .add (T 32) (N 1), Mv 9 33])
 (.region [Mv 34 11, Mv 10 34])))))
def c_slices_BinarySearchFunc_api_Entry_api_Entry_int : AFn := ⟨49, [.tmp 6, .tmp 7], .seq (.region [Mn 6 0, I 7 .mv [Tf]])
 (.seq (.region [Mv 12 0, I 13 .lens [T 12], Mv 8 13])
 (.seq (.region [Mv 14 8, Mn 9 0, Mv 10 14])
 (.seq (.block 0 (.loop c_slices_BinarySearchFunc_api_Entry_api_Entry_int_L0))
 (.seq (.region [Mv 35 9, Mv 36 9, Mv 37 8, Bi 38 .lss (T 36) (T 37), Mv 39 38, Mw 40 2 39 true, Mw 41 0 39 true, Mw 42 9 39 true, IG 43 (.indexs 10) [T 41, T 42] 39 true, IG 44 (.loadn 10) [T 43] 39 true, Mw 45 1 39 true, IG 46 .callv [T 40, T 44, T 45] 39 true, IG 47 (.bin .eql) [T 46, N 0] 39 true, I 48 .pick [T 39, T 47, Tf], Mv 6 35, Mv 7 48])
 (.ret)))))⟩
abbrev n_entry_Find_1 : Nat := 225
def c_entry_Find_1 : AFn := ⟨9, [.tmp 4], .seq (.region [I 2 (.box 94 10) [T 0], Mn 4 0])
 (.seq (.seq (.region [Fa 5 1 2, Ld 6 5, Mv 7 1, Bi 8 .leq (T 6) (T 7)])
 (.cond (T 8)
 (.seq (.region [Mn 4 (-1)])
 (.ret))
 (.skip)))
 (.seq (.region [Mn 4 1])
 (.ret)))⟩
abbrev n_kern_proc_at_1 : Nat := 226
def c_kern_proc_at_1 : AFn := ⟨14, [.tmp 3], .seq (.region [I 2 (.box 168 6) [T 0], I 3 .mv [Tf]])
 (.seq (.region [Fa 4 0 2, Ld 5 4, Ld 6 1, Bi 7 .leq (T 5) (T 6), Mv 8 7, IG 9 .load1 [T 1] 8 true, IG 10 (.fieldAddr 1) [T 2] 8 true, IG 11 .load1 [T 10] 8 true, IG 12 (.bin .lss) [T 9, T 11] 8 true, I 13 .pick [T 8, T 12, Tf], Mv 3 13])
 (.ret))⟩
abbrev n_amap_Pool_Slots : Nat := 227
def c_amap_Pool_Slots : AFn := ⟨16, [.tmp 4], .seq (.region [Mn 4 0])
 (.seq (.seq (.region [Mv 6 0, Mv 7 1, Kc 8 [F 228, T 6, T 7], Mv 5 8])
 (.seq (.region [Mv 9 5, I 10 (.eqv true .ptr) [T 9, .lit .nilptr]])
 (.cond (T 10)
 (.seq (.region [Mv 11 5, Nc 12 11, Fa 13 1 12, Ld 14 13, I 15 .lens [T 14], Mv 4 15])
 (.ret))
 (.skip))))
 (.seq (.region [Mn 4 0])
 (.ret)))⟩
abbrev n_amap_Pool_of : Nat := 228
def c_amap_Pool_of : AFn := ⟨29, [.tmp 4], .seq (.region [I 4 .mv [.lit .nilptr]])
 (.seq (.seq (.region [Mv 5 0, Kc 6 [F 184, T 5], I 7 (.un .not) [T 6], Mv 8 7, Mw 9 1 8 false, IG 10 (.bin .lss) [T 9, N 1] 8 false, I 11 .pick [T 8, Tt, T 10], Mv 12 11, Mw 13 1 12 false, Mw 14 0 12 false, IG 15 .nilCheck [T 14] 12 false, IG 16 (.fieldAddr 2) [T 15] 12 false, IG 17 .load1 [T 16] 12 false, IG 18 .lens [T 17] 12 false, IG 19 (.bin .gtr) [T 13, T 18] 12 false, I 20 .pick [T 12, Tt, T 19]])
 (.cond (T 20)
 (.seq (.region [I 4 .mv [.lit .nilptr]])
 (.ret))
 (.skip)))
 (.seq (.region [Mv 21 0, Nc 22 21, Fa 23 2 22, Ld 24 23, Mv 25 1, Bi 26 .sub (T 25) (N 1), I 27 (.indexs 1) [T 24, T 26], Ld 28 27, Mv 4 28])
 (.ret)))⟩
abbrev n_swap_Device_may : Nat := 229
def c_swap_Device_may : AFn := ⟨26, [.tmp 6], .seq (.region [Mn 6 0])
 (.seq (.block 0 (.seq (.region [Mv 8 0, Kc 9 [F 308, T 8], I 10 (.un .not) [T 9], Mv 7 10])
 (.cond (T 7)
 (.seq (.region [Mn 6 1])
 (.ret))
 (.seq (.region [Mv 12 1, Bi 13 .lss (T 12) (N 0), Mv 14 13, Mw 15 1 14 false, Mw 16 0 14 false, IG 17 .nilCheck [T 16] 14 false, IG 18 (.fieldAddr 0) [T 17] 14 false, IG 19 .load1 [T 18] 14 false, IG 20 (.bin .geq) [T 15, T 19] 14 false, I 21 .pick [T 14, Tt, T 20], Mv 22 21, Mw 23 2 22 false, IG 24 (.un .not) [T 23] 22 false, I 25 .pick [T 22, Tt, T 24], Mv 11 25])
 (.cond (T 11)
 (.seq (.region [Mn 6 2])
 (.ret))
 (.skip))))))
 (.seq (.region [Mn 6 0])
 (.ret)))⟩
abbrev n_slices_Index_int_int : Nat := 232
def c_slices_Index_int_int_L0 : ACode :=
 .seq (.region [Bi 9 .lss (T 8) (T 7)])
 (.seq (.cond (T 9)
 (.skip)
 (.exit 0))
 (.seq (.block 1 (.seq (.region [Mv 10 8, Mv 5 10])
 (.seq (.region [Mv 11 1, Mv 12 0, Mv 13 5, I 14 (.indexs 1) [T 12, T 13], Ld 15 14, Bi 16 .eql (T 11) (T 15)])
 (.cond (T 16)
 (.seq (.region [Mv 17 5, Mv 4 17])
 (.ret))
 (.skip)))))
 (.region [Bi 18 .add (T 8) (N 1), Mv 8 18])))
def c_slices_Index_int_int : AFn := ⟨19, [.tmp 4], .seq (.region [Mn 4 0])
 (.seq (.seq (.region [Mv 6 0, I 7 .lens [T 6], Mn 8 0])
 (.block 0 (.loop c_slices_Index_int_int_L0)))
 (.seq (.region [Mn 4 (-1)])
 (.ret)))⟩
abbrev n_ring_Rows_int_Rows : Nat := 235
def c_ring_Rows_int_Rows : AFn := ⟨10, [.tmp 2], .seq (.region [Mn 2 0])
 (.seq (.seq (.region [Mv 3 0, I 4 (.eqv false .ptr) [T 3, .lit .nilptr]])
 (.cond (T 4)
 (.seq (.region [Mn 2 0])
 (.ret))
 (.skip)))
 (.seq (.region [Mv 5 0, Nc 6 5, Fa 7 0 6, Ld 8 7, I 9 .lens [T 8], Mv 2 9])
 (.ret)))⟩
abbrev n_maps_Keys_map_int_kern_proc_int_kern_proc : Nat := 238
def c_maps_Keys_map_int_kern_proc_int_kern_proc : AFn := ⟨4, [.tmp 2], .seq (.region [I 1 (.box 67 1) [T 0], I 2 .mv [.lit .nilfunc]])
 (.seq (.region [I 3 (.mkfunc 312 0) [T 1], Mv 2 3])
 (.ret))⟩
abbrev n_pmap_Map_All_1 : Nat := 239
def c_pmap_Map_All_1_A0 : ACode :=
 .seq (.region [Mv 3 17])
 (.region [I 4 (.alloc 204 2 (.vals [Zi, Zi])) [], J (.store 2) [T 4, T 18]])
def c_pmap_Map_All_1_B0 : ACode :=
 .block 1 (.seq (.region [Ld 19 2, Mv 20 3, I 21 (.loadn 2) [T 4], Kc 22 [T 19, T 20, T 21], I 23 (.un .not) [T 22]])
 (.cond (T 23)
 (.ret)
 (.skip)))
def c_pmap_Map_All_1 : AFn := ⟨24, [], .seq (.region [I 2 (.box 292 1) [T 0]])
 (.seq (.seq (.region [Ld 5 1, Kc 6 [F 178, T 5], I 7 (.un .not) [T 6]])
 (.cond (T 7)
 (.ret)
 (.skip)))
 (.seq (.draw [[⟨0, Ld 8 1, [], false⟩, ⟨1, Nc 9 8, [], false⟩, ⟨2, Fa 10 0 9, [], false⟩, ⟨3, Ld 11 10, [], false⟩, ⟨4, Ld 12 1, [], false⟩, ⟨5, Nc 13 12, [], false⟩, ⟨6, Fa 14 3 13, [], false⟩, ⟨7, Ld 15 14, [], false⟩, ⟨8, Kc 16 [F 240, T 11, T 15], [], false⟩]])
 (.block 0 (.rfun (T 16) [17, 18] c_pmap_Map_All_1_A0 c_pmap_Map_All_1_B0))))⟩
abbrev n_walk_Leaves : Nat := 240
def c_walk_Leaves : AFn := ⟨6, [.tmp 4], .seq (.region [I 2 (.box 49 1) [T 0], I 3 (.box 3 1) [T 1], I 4 .mv [.lit .nilfunc]])
 (.seq (.region [I 5 (.mkfunc 313 0) [T 2, T 3], Mv 4 5])
 (.ret))⟩
abbrev n_pmap_Map_change : Nat := 241
def c_pmap_Map_change : AFn := ⟨52, [.tmp 6], .seq (.region [I 6 .mv [Tf]])
 (.seq (.region [Mv 14 0, Mv 15 1, Kc 16 [F 317, T 14, T 15], Mv 13 16, Xt 17 0 13, Xt 18 1 13, I 7 (.alloc 204 2 (.vals [Zi, Zi])) [], J (.store 2) [T 7, T 17], Mv 8 18])
 (.seq (.seq (.region [Mv 19 8, I 20 (.un .not) [T 19]])
 (.cond (T 20)
 (.seq (.region [I 6 .mv [Tf]])
 (.ret))
 (.skip)))
 (.seq (.draw [[⟨0, Mv 22 0, [], false⟩, ⟨1, Nc 23 22, [], false⟩, ⟨2, Fa 24 0 23, [], false⟩, ⟨3, Ld 25 24, [], false⟩, ⟨4, Mv 26 0, [], false⟩, ⟨5, Nc 27 26, [], false⟩, ⟨6, Fa 28 3 27, [], false⟩, ⟨7, Ld 29 28, [], false⟩, ⟨8, Mv 30 1, [], false⟩, ⟨9, Kc 31 [F 318, T 25, T 29, T 30], [], false⟩, ⟨10, Mv 21 31, [], false⟩, ⟨11, Xt 32 0 21, [], false⟩, ⟨12, Xt 33 1 21, [], false⟩, ⟨13, Xt 34 2 21, [], false⟩, ⟨14, Mv 9 32, [], false⟩, ⟨15, Mv 10 33, [], false⟩, ⟨16, Mv 11 34, [], false⟩]])
 (.seq (.region [Mv 35 2, I 36 (.loadn 2) [T 7], Kc 37 [T 35, T 36], Kc 38 [F 319, T 37], Mv 12 38])
 (.seq (.region [Mv 39 0, Nc 40 39, Fa 41 0 40, Ld 42 41, Mv 43 9, Mv 44 10, Mv 45 12, Kc 46 [F 276, T 42, T 43, T 44, T 45]])
 (.seq (.seq (.region [Mv 47 12, I 48 (.bin .eql) [T 47, .lit (.int .u64 0)]])
 (.cond (T 48)
 (.region [Mv 49 0, Mv 50 1, Kc 51 [F 320, T 49, T 50]])
 (.skip)))
 (.seq (.region [I 6 .mv [Tt]])
 (.ret))))))))⟩
abbrev n_tlb_Table_Flush_1 : Nat := 243
def c_tlb_Table_Flush_1 : AFn := ⟨7, [.tmp 3], .seq (.region [I 2 (.box 207 2) [T 0], I 3 .mv [Tf]])
 (.seq (.region [I 4 (.loadn 2) [T 2], I 5 (.loadn 2) [T 1], I 6 (.eqv false (.flat [.int, .int])) [T 4, T 5], Mv 3 6])
 (.ret))⟩
abbrev n_slices_IndexFunc_frames_Frame_frames_Frame : Nat := 244
def c_slices_IndexFunc_frames_Frame_frames_Frame_L0 : ACode :=
 .seq (.region [Bi 9 .lss (T 8) (T 7)])
 (.seq (.cond (T 9)
 (.skip)
 (.exit 0))
 (.seq (.block 1 (.seq (.region [Mv 10 8, Mv 5 10])
 (.seq (.region [Mv 11 1, Mv 12 0, Mv 13 5, I 14 (.indexs 5) [T 12, T 13], I 15 (.loadn 5) [T 14], Kc 16 [T 11, T 15]])
 (.cond (T 16)
 (.seq (.region [Mv 17 5, Mv 4 17])
 (.ret))
 (.skip)))))
 (.region [Bi 18 .add (T 8) (N 1), Mv 8 18])))
def c_slices_IndexFunc_frames_Frame_frames_Frame : AFn := ⟨19, [.tmp 4], .seq (.region [Mn 4 0])
 (.seq (.seq (.region [Mv 6 0, I 7 .lens [T 6], Mn 8 0])
 (.block 0 (.loop c_slices_IndexFunc_frames_Frame_frames_Frame_L0)))
 (.seq (.region [Mn 4 (-1)])
 (.ret)))⟩
abbrev n_frames_Pool_Take_1 : Nat := 245
def c_frames_Pool_Take_1 : AFn := ⟨6, [.tmp 2], .seq (.region [I 1 (.box 80 5) [T 0], I 2 .mv [Tf]])
 (.seq (.region [I 3 (.loadn 5) [T 1], I 4 (.build (.agg [Zi, Zi, Zi, Zi, Zi]) []) [], I 5 (.eqv false (.flat [.int, .int, .int, .int, .int])) [T 3, T 4], Mv 2 5])
 (.ret))⟩
abbrev n_maps_Keys_map_int_object_one_int_object_one : Nat := 248
def c_maps_Keys_map_int_object_one_int_object_one : AFn := ⟨4, [.tmp 2], .seq (.region [I 1 (.box 142 1) [T 0], I 2 .mv [.lit .nilfunc]])
 (.seq (.region [I 3 (.mkfunc 322 0) [T 1], Mv 2 3])
 (.ret))⟩
abbrev n_entry_Clip : Nat := 251
def c_entry_Clip : AFn := ⟨56, [.tmp 4], .seq (.region [I 4 .mv [.lit .nilsl]])
 (.seq (.region [Mv 8 0, Kc 9 [F 172, T 8], Mv 0 9])
 (.seq (.region [Mv 11 0, Mv 12 1, Kc 13 [F 123, T 11, T 12], Mv 10 13, Xt 14 0 10, Xt 15 1 10, Mv 5 14, Mv 6 15])
 (.seq (.seq (.region [Mv 16 6, I 17 (.un .not) [T 16], Mv 18 17, Mw 19 0 18 false, Mw 20 5 18 false, IG 21 (.indexs 10) [T 19, T 20] 18 false, IG 22 (.fieldAddr 0) [T 21] 18 false, IG 23 .load1 [T 22] 18 false, Mw 24 1 18 false, IG 25 (.bin .eql) [T 23, T 24] 18 false, I 26 .pick [T 18, Tt, T 25]])
 (.cond (T 26)
 (.seq (.region [Mv 27 0, Mv 4 27])
 (.ret))
 (.skip)))
 (.seq (.region [Mv 28 0, Mv 29 5, I 30 (.indexs 10) [T 28, T 29], I 31 (.loadn 10) [T 30], I 7 (.alloc 94 10 (.vals [Zi, Zi, Zi, Zi, (.bool false), Zi, Zi, Zi, Zi, (.bool false)])) [], J (.store 10) [T 7, T 31]])
 (.seq (.seq (.region [Fa 32 2 7, Ld 33 32, Bi 34 .gtr (T 33) (N 0)])
 (.cond (T 34)
 (.region [Fa 35 3 7, Ld 36 35, Mv 37 1, Fa 38 0 7, Ld 39 38, Bi 40 .sub (T 37) (T 39), Bi 41 .add (T 36) (T 40), Fa 42 3 7, J (.store 1) [T 42, T 41]])
 (.skip)))
 (.seq (.region [Mv 43 0, Mv 44 5, Mv 45 1, Mv 46 1, I 47 (.indexs 10) [T 43, T 44], Fa 48 1 47, J (.store 1) [T 48, T 45], Fa 49 0 7, J (.store 1) [T 49, T 46]])
 (.seq (.region [Mv 50 0, Mv 51 5, Bi 52 .add (T 51) (N 1), I 53 (.loadn 10) [T 7], I 54 (.bslice 94 10 1 (.vals [Zi, Zi, Zi, Zi, (.bool false), Zi, Zi, Zi, Zi, (.bool false)]) [0]) [T 53], Kc 55 [F 255, T 50, T 52, T 54], Mv 4 55])
 (.ret))))))))⟩
abbrev n_slices_DeleteFunc_api_Entry_api_Entry : Nat := 252
def c_slices_DeleteFunc_api_Entry_api_Entry_L0 : ACode :=
 .seq (.seq (.region [Mv 16 6, Mv 17 0, I 18 .lens [T 17], Bi 19 .lss (T 16) (T 18)])
 (.cond (T 19)
 (.skip)
 (.exit 0)))
 (.seq (.block 1 (.seq (.region [Mv 22 0, Mv 23 6, I 24 (.indexs 10) [T 22, T 23], I 25 (.loadn 10) [T 24], I 7 (.alloc 94 10 (.vals [Zi, Zi, Zi, Zi, (.bool false), Zi, Zi, Zi, Zi, (.bool false)])) [], J (.store 10) [T 7, T 25]])
 (.seq (.region [Mv 26 1, I 27 (.loadn 10) [T 7], Kc 28 [T 26, T 27], I 29 (.un .not) [T 28]])
 (.cond (T 29)
 (.seq (.region [Mv 30 0, Mv 31 5, I 32 (.loadn 10) [T 7], I 33 (.indexs 10) [T 30, T 31], J (.store 10) [T 33, T 32]])
 (.region [Mv 34 5, Bi 35 .add (T 34) (N 1), Mv 5 35]))
 (.skip)))))
 (.region [Mv 20 6, Bi 21 .add (T 20) (N 1), Mv 6 21]))
def c_slices_DeleteFunc_api_Entry_api_Entry : AFn := ⟨42, [.tmp 4], .seq (.region [I 4 .mv [.lit .nilsl]])
 (.seq (.region [Mv 8 0, Mv 9 1, Kc 10 [F 325, T 8, T 9], Mv 5 10])
 (.seq (.seq (.region [Mv 11 5, Bi 12 .eql (T 11) (N (-1))])
 (.cond (T 12)
 (.seq (.region [Mv 13 0, Mv 4 13])
 (.ret))
 (.skip)))
 (.seq (.seq (.region [Mv 14 5, Bi 15 .add (T 14) (N 1), Mv 6 15])
 (.block 0 (.loop c_slices_DeleteFunc_api_Entry_api_Entry_L0)))
 (.seq (.region [Mv 36 0, Mv 37 5, I 38 (.slice 10 true false false) [T 36, T 37], J (.clear 10 (.vals [Zi, Zi, Zi, Zi, (.bool false), Zi, Zi, Zi, Zi, (.bool false)])) [T 38]])
 (.seq (.region [Mv 39 0, Mv 40 5, I 41 (.slice 10 false true false) [T 39, T 40], Mv 4 41])
 (.ret))))))⟩
abbrev n_entry_room : Nat := 254
def c_entry_room_L0 : ACode :=
 .seq (.region [Bi 23 .lss (T 22) (T 21)])
 (.seq (.cond (T 23)
 (.skip)
 (.exit 0))
 (.seq (.block 1 (.seq (.region [I 24 (.indexs 10) [T 20, T 22], I 25 (.loadn 10) [T 24], I 11 (.alloc 94 10 (.vals [Zi, Zi, Zi, Zi, (.bool false), Zi, Zi, Zi, Zi, (.bool false)])) [], J (.store 10) [T 11, T 25]])
 (.seq (.seq (.region [Mv 26 1, Fa 27 0 11, Ld 28 27, Mv 29 2, Bi 30 .sub (T 28) (T 29), Bi 31 .leq (T 26) (T 30)])
 (.cond (T 31)
 (.exit 0)
 (.skip)))
 (.region [Fa 32 1 11, Ld 33 32, Mv 1 33]))))
 (.region [Bi 34 .add (T 22) (N 1), Mv 22 34])))
def c_entry_room : AFn := ⟨40, [.tmp 6, .tmp 7], .seq (.region [Mn 6 0, I 7 .mv [Tf]])
 (.seq (.region [Mv 13 0, Mv 14 1, Kc 15 [F 123, T 13, T 14], Mv 12 15, Xt 16 0 12, Xt 17 1 12, Mv 8 16, Mv 9 17])
 (.seq (.seq (.region [Mv 18 0, Mv 19 8, I 20 (.slice 10 true false false) [T 18, T 19], I 21 .lens [T 20], Mn 22 0])
 (.block 0 (.loop c_entry_room_L0)))
 (.seq (.region [Mv 35 1, Mv 36 1, Mv 37 2, Bi 38 .sub (N 67108864) (T 37), Bi 39 .leq (T 36) (T 38), Mv 6 35, Mv 7 39])
 (.ret))))⟩
abbrev n_slices_Insert_api_Entry_api_Entry : Nat := 255
def c_slices_Insert_api_Entry_api_Entry : AFn := ⟨95, [.tmp 6], .seq (.region [I 6 .mv [.lit .nilsl]])
 (.seq (.region [Mv 10 0, Mv 11 1, I 12 (.slice 10 true false false) [T 10, T 11]])
 (.seq (.region [Mv 13 2, I 14 .lens [T 13], Mv 7 14])
 (.seq (.seq (.region [Mv 15 7, Bi 16 .eql (T 15) (N 0)])
 (.cond (T 16)
 (.seq (.region [Mv 17 0, Mv 6 17])
 (.ret))
 (.skip)))
 (.seq (.region [Mv 18 0, I 19 .lens [T 18], Mv 8 19])
 (.seq (.seq (.region [Mv 20 1, Mv 21 8, Bi 22 .eql (T 20) (T 21)])
 (.cond (T 22)
 (.seq (.region [Mv 23 0, Mv 24 2, I 25 (.append 94 10 80 (.vals [Zi, Zi, Zi, Zi, (.bool false), Zi, Zi, Zi, Zi, (.bool false)])) [T 23, T 24], Mv 6 25])
 (.ret))
 (.skip)))
 (.seq (.seq (.region [Mv 26 8, Mv 27 7, Bi 28 .add (T 26) (T 27), Mv 29 0, I 30 (.cap) [T 29], Bi 31 .gtr (T 28) (T 30)])
 (.cond (T 31)
 (.seq (.region [Mv 32 0, Mv 33 1, I 34 (.slice 10 false true false) [T 32, T 33], Mv 35 8, Mv 36 7, Bi 37 .add (T 35) (T 36), Mv 38 1, Bi 39 .sub (T 37) (T 38), I 40 (.appendz 94 10 80 (.vals [Zi, Zi, Zi, Zi, (.bool false), Zi, Zi, Zi, Zi, (.bool false)])) [T 34, T 39], Mv 9 40])
 (.seq (.region [Mv 41 9, Mv 42 1, I 43 (.slice 10 true false false) [T 41, T 42], Mv 44 2, I 45 (.copy 10) [T 43, T 44]])
 (.seq (.draw [[⟨0, Mv 46 9, [], false⟩, ⟨1, Mv 47 1, [], false⟩, ⟨2, Mv 48 7, [], false⟩, ⟨3, Bi 49 .add (T 47) (T 48), [], false⟩, ⟨4, I 50 (.slice 10 true false false) [T 46, T 49], [], false⟩, ⟨5, Mv 51 0, [], false⟩, ⟨6, Mv 52 1, [], false⟩, ⟨7, I 53 (.slice 10 true false false) [T 51, T 52], [], false⟩, ⟨8, I 54 (.copy 10) [T 50, T 53], [], false⟩]])
 (.seq (.region [Mv 55 9, Mv 6 55])
 (.ret)))))
 (.skip)))
 (.seq (.region [Mv 56 0, Mv 57 8, Mv 58 7, Bi 59 .add (T 57) (T 58), I 60 (.slice 10 false true false) [T 56, T 59], Mv 0 60])
 (.seq (.seq (.region [Mv 61 2, Mv 62 0, Mv 63 1, Mv 64 7, Bi 65 .add (T 63) (T 64), I 66 (.slice 10 true false false) [T 62, T 65], Kc 67 [F 326, T 61, T 66], I 68 (.un .not) [T 67]])
 (.cond (T 68)
 (.seq (.draw [[⟨0, Mv 69 0, [], false⟩, ⟨1, Mv 70 1, [], false⟩, ⟨2, Mv 71 7, [], false⟩, ⟨3, Bi 72 .add (T 70) (T 71), [], false⟩, ⟨4, I 73 (.slice 10 true false false) [T 69, T 72], [], false⟩, ⟨5, Mv 74 0, [], false⟩, ⟨6, Mv 75 1, [], false⟩, ⟨7, I 76 (.slice 10 true false false) [T 74, T 75], [], false⟩, ⟨8, I 77 (.copy 10) [T 73, T 76], [], false⟩]])
 (.seq (.region [Mv 78 0, Mv 79 1, I 80 (.slice 10 true false false) [T 78, T 79], Mv 81 2, I 82 (.copy 10) [T 80, T 81]])
 (.seq (.region [Mv 83 0, Mv 6 83])
 (.ret))))
 (.skip)))
 (.seq (.region [Mv 84 0, Mv 85 8, I 86 (.slice 10 true false false) [T 84, T 85], Mv 87 2, I 88 (.copy 10) [T 86, T 87]])
 (.seq (.region [Mv 89 0, Mv 90 1, I 91 (.slice 10 true false false) [T 89, T 90], Mv 92 7, Kc 93 [F 327, T 91, T 92]])
 (.seq (.region [Mv 94 0, Mv 6 94])
 (.ret))))))))))))⟩
abbrev n_tlb_Table_Find : Nat := 257
def c_tlb_Table_Find : AFn := ⟨22, [.cell 4 (.loadn 2), .tmp 5], .seq (.region [I 3 (.box 207 2) [T 1], I 4 (.alloc 204 2 (.vals [Zi, Zi])) [], I 5 .mv [Tf]])
 (.seq (.seq (.region [Mv 8 0, I 9 (.eqv false .ptr) [T 8, .lit .nilptr]])
 (.cond (T 9)
 (.seq (.region [I 10 (.build (.agg [Zi, Zi]) []) [], J (.store 2) [T 4, T 10], I 5 .mv [Tf]])
 (.ret))
 (.skip)))
 (.seq (.draw [[⟨0, Mv 12 0, [], false⟩, ⟨1, Nc 13 12, [], false⟩, ⟨2, Fa 14 2 13, [], false⟩, ⟨3, Ld 15 14, [], false⟩, ⟨4, I 16 (.loadn 2) [T 3], [], false⟩, ⟨5, I 17 (.lookup (.flat [.int, .int]) (.agg [Zi, Zi]) true) [T 15, T 16], [], false⟩, ⟨6, Mv 11 17, [], false⟩, ⟨7, Xt 18 0 11, [], false⟩, ⟨8, Xt 19 1 11, [], false⟩, ⟨9, I 6 (.alloc 204 2 (.vals [Zi, Zi])) [], [(3, Ld 15 14), (4, I 16 (.loadn 2) [T 3]), (5, I 17 (.lookup (.flat [.int, .int]) (.agg [Zi, Zi]) true) [T 15, T 16])], false⟩, ⟨10, J (.store 2) [T 6, T 18], [], false⟩, ⟨11, Mv 7 19, [], false⟩]])
 (.seq (.region [I 20 (.loadn 2) [T 6], Mv 21 7, J (.store 2) [T 4, T 20], Mv 5 21])
 (.ret))))⟩
abbrev n_pte_May : Nat := 258
def c_pte_May : AFn := ⟨37, [.tmp 6], .seq (.region [I 3 (.box 204 2) [T 0], I 6 .mv [Tf]])
 (.seq (.region [Mn 7 0])
 (.seq (.seq (.region [Mv 8 1])
 (.block 0 (.seq (.region [Bi 10 .eql (T 8) (N 1), Mv 9 10])
 (.cond (T 9)
 (.region [Mn 7 2])
 (.seq (.region [Bi 12 .eql (T 8) (N 2), Mv 11 12])
 (.cond (T 11)
 (.region [Mn 7 4])
 (.seq (.region [Bi 14 .eql (T 8) (N 4), Mv 13 14])
 (.cond (T 13)
 (.region [Mn 7 8])
 (.skip)))))))))
 (.seq (.region [I 15 (.loadn 2) [T 3], Kc 16 [F 275, T 15], Bi 17 .eql (T 16) (N 2), Mv 18 17, Mw 19 7 18 true, IG 20 (.bin .gtr) [T 19, N 0] 18 true, I 21 .pick [T 18, T 20, Tf], Mv 22 21, IG 23 (.fieldAddr 0) [T 3] 22 true, IG 24 .load1 [T 23] 22 true, Mw 25 7 22 true, IG 26 (.bin .and) [T 24, T 25] 22 true, IG 27 (.bin .gtr) [T 26, N 0] 22 true, I 28 .pick [T 22, T 27, Tf], Mv 29 28, IG 30 (.fieldAddr 0) [T 3] 29 true, IG 31 .load1 [T 30] 29 true, IG 32 (.bin .and) [T 31, N 16] 29 true, IG 33 (.bin .gtr) [T 32, N 0] 29 true, Mw 34 2 29 true, IG 35 (.eqv false (.scal .bool)) [T 33, T 34] 29 true, I 36 .pick [T 29, T 35, Tf], Mv 6 36])
 (.ret))))⟩
abbrev n_walk_Walk : Nat := 259
def c_walk_Walk : AFn := ⟨90, [.tmp 10, .tmp 11, .tmp 12], .seq (.region [Mn 10 0, Mn 11 0, Mn 12 0])
 (.seq (.seq (.region [Mv 22 2, Kc 23 [F 328, T 22], I 24 (.un .not) [T 23], Mv 25 24, Mw 26 1 25 false, IG 27 (.bin .lss) [T 26, N 0] 25 false, I 28 .pick [T 25, Tt, T 27], Mv 29 28, Mw 30 1 29 false, Mw 31 0 29 false, IG 32 .callv [F 44, T 31] 29 false, IG 33 (.bin .geq) [T 30, T 32] 29 false, I 34 .pick [T 29, Tt, T 33]])
 (.cond (T 34)
 (.seq (.region [Mn 10 2, Mn 11 0, Mn 12 0])
 (.ret))
 (.skip)))
 (.seq (.region [Mv 36 2, Kc 37 [F 329, T 36], Mv 35 37, Xt 38 0 35, Xt 39 1 35, Mv 13 38, Mv 14 39])
 (.seq (.region [Mv 41 0, Mv 42 1, Mv 43 13, Kc 44 [F 318, T 41, T 42, T 43], Mv 40 44, Xt 45 0 40, Xt 46 1 40, Xt 47 2 40, Mv 15 45, Mv 16 46, Mv 17 47])
 (.seq (.seq (.region [Mv 48 17, I 49 (.un .not) [T 48]])
 (.cond (T 49)
 (.seq (.region [Mn 10 1, Mn 11 0, Mn 12 0])
 (.ret))
 (.skip)))
 (.seq (.region [Mv 50 0, Mv 51 15, Mv 52 16, Kc 53 [F 315, T 50, T 51, T 52], I 18 (.alloc 204 2 (.vals [Zi, Zi])) [], J (.store 2) [T 18, T 53]])
 (.seq (.seq (.draw [[⟨0, I 54 (.loadn 2) [T 18], [], false⟩, ⟨1, Kc 55 [F 275, T 54], [], false⟩, ⟨2, Bi 56 .neq (T 55) (N 2), [], false⟩, ⟨3, Mv 57 56, [], false⟩, ⟨4, IG 58 (.fieldAddr 1) [T 18] 57 false, [], false⟩, ⟨5, IG 59 .load1 [T 58] 57 false, [], false⟩, ⟨6, Mw 60 0 57 false, [], false⟩, ⟨7, IG 61 .callv [F 44, T 60] 57 false, [(5, IG 59 .load1 [T 58] 57 false)], false⟩, ⟨8, IG 62 (.bin .geq) [T 59, T 61] 57 false, [], false⟩, ⟨9, I 63 .pick [T 57, Tt, T 62], [], false⟩]])
 (.cond (T 63)
 (.seq (.region [Mn 10 1, Mn 11 0, Mn 12 0])
 (.ret))
 (.skip)))
 (.seq (.seq (.region [I 64 (.loadn 2) [T 18], Mv 65 3, Mv 66 4, Kc 67 [F 258, T 64, T 65, T 66], I 68 (.un .not) [T 67]])
 (.cond (T 68)
 (.seq (.region [Mn 10 3, Mn 11 0, Mn 12 0])
 (.ret))
 (.skip)))
 (.seq (.region [I 19 .mv [.lit (.int .u64 64)]])
 (.seq (.seq (.region [Mv 69 3, Bi 70 .eql (T 69) (N 2)])
 (.cond (T 70)
 (.region [Mv 71 19, I 72 (.bin .or) [T 71, .lit (.int .u64 128)], Mv 19 72])
 (.skip)))
 (.seq (.region [Mv 74 0, Mv 75 15, Mv 76 16, Kc 77 [F 273, T 74, T 75, T 76], Mv 73 77, Xt 78 0 73, Xt 79 1 73, Mv 20 78, Mv 21 79])
 (.seq (.region [Mv 80 0, Mv 81 15, Mv 82 16, Mv 83 20, Mv 84 19, Bi 85 .or (T 83) (T 84), Kc 86 [F 276, T 80, T 81, T 82, T 85]])
 (.seq (.draw [[⟨0, Fa 87 1 18, [], false⟩, ⟨1, Ld 88 87, [], false⟩, ⟨2, Mv 89 14, [], false⟩, ⟨3, Mn 10 0, [], false⟩, ⟨4, Mv 11 88, [], false⟩, ⟨5, Mv 12 89, [], false⟩]])
 (.ret)))))))))))))⟩
abbrev n_pmap_Map_Root : Nat := 260
def c_pmap_Map_Root : AFn := ⟨10, [.tmp 2], .seq (.region [Mn 2 0])
 (.seq (.seq (.region [Mv 3 0, Kc 4 [F 178, T 3], I 5 (.un .not) [T 4]])
 (.cond (T 5)
 (.seq (.region [Mn 2 (-1)])
 (.ret))
 (.skip)))
 (.seq (.region [Mv 6 0, Nc 7 6, Fa 8 3 7, Ld 9 8, Mv 2 9])
 (.ret)))⟩
abbrev n_walk_Look : Nat := 261
def c_walk_Look : AFn := ⟨26, [.cell 6 (.loadn 2), .tmp 7], .seq (.region [I 6 (.alloc 204 2 (.vals [Zi, Zi])) [], I 7 .mv [Tf]])
 (.seq (.region [Mv 12 0, Mv 13 1, Mv 14 2, Kc 15 [F 318, T 12, T 13, T 14], Mv 11 15, Xt 16 0 11, Xt 17 1 11, Xt 18 2 11, Mv 8 16, Mv 9 17, Mv 10 18])
 (.seq (.seq (.region [Mv 19 10, I 20 (.un .not) [T 19]])
 (.cond (T 20)
 (.seq (.region [I 21 (.build (.agg [Zi, Zi]) []) [], J (.store 2) [T 6, T 21], I 7 .mv [Tf]])
 (.ret))
 (.skip)))
 (.seq (.region [Mv 22 0, Mv 23 8, Mv 24 9, Kc 25 [F 315, T 22, T 23, T 24], J (.store 2) [T 6, T 25], I 7 .mv [Tt]])
 (.ret))))⟩
abbrev n_tlb_Table_Put : Nat := 262
def c_tlb_Table_Put : AFn := ⟨57, [], .seq (.region [I 3 (.box 65 1) [T 0], I 4 (.box 207 2) [T 1], I 5 (.box 204 2) [T 2]])
 (.seq (.seq (.region [Ld 8 3, I 9 (.eqv false .ptr) [T 8, .lit .nilptr], Mv 10 9, IG 11 .load1 [T 3] 10 false, IG 12 .nilCheck [T 11] 10 false, IG 13 (.fieldAddr 2) [T 12] 10 false, IG 14 .load1 [T 13] 10 false, IG 15 (.eqv false .map) [T 14, .lit .nilmap] 10 false, I 16 .pick [T 10, Tt, T 15]])
 (.cond (T 16)
 (.ret)
 (.skip)))
 (.seq (.seq (.draw [[⟨0, Ld 18 3, [], false⟩, ⟨1, Nc 19 18, [], false⟩, ⟨2, Fa 20 2 19, [], false⟩, ⟨3, Ld 21 20, [], false⟩, ⟨4, I 22 (.loadn 2) [T 4], [], false⟩, ⟨5, I 23 (.lookup (.flat [.int, .int]) (.agg [Zi, Zi]) true) [T 21, T 22], [], false⟩, ⟨6, Mv 17 23, [], false⟩, ⟨7, Xt 24 0 17, [], false⟩, ⟨8, Xt 25 1 17, [], false⟩, ⟨9, I 6 (.alloc 204 2 (.vals [Zi, Zi])) [], [(0, Ld 18 3), (3, Ld 21 20), (4, I 22 (.loadn 2) [T 4]), (5, I 23 (.lookup (.flat [.int, .int]) (.agg [Zi, Zi]) true) [T 21, T 22])], false⟩, ⟨10, J (.store 2) [T 6, T 24], [], false⟩, ⟨11, Mv 7 25, [], false⟩]])
 (.seq (.region [Mv 26 7, I 27 (.un .not) [T 26]])
 (.cond (T 27)
 (.draw [[⟨0, Ld 28 3, [], false⟩, ⟨1, Ld 29 3, [], false⟩, ⟨2, Nc 30 29, [], false⟩, ⟨3, Fa 31 1 30, [], false⟩, ⟨4, Ld 32 31, [], false⟩, ⟨5, I 33 (.loadn 2) [T 4], [], false⟩, ⟨6, I 34 (.bslice 207 2 1 (.vals [Zi, Zi]) [0]) [T 33], [(0, Ld 28 3), (1, Ld 29 3), (4, Ld 32 31)], false⟩, ⟨7, I 35 (.append 207 2 16 (.vals [Zi, Zi])) [T 32, T 34], [(0, Ld 28 3)], false⟩, ⟨8, Nc 36 28, [], false⟩, ⟨9, Fa 37 1 36, [], false⟩, ⟨10, J (.store 1) [T 37, T 35], [], false⟩]])
 (.skip))))
 (.seq (.draw [[⟨0, Ld 38 3, [], false⟩, ⟨1, Nc 39 38, [], false⟩, ⟨2, Fa 40 2 39, [], false⟩, ⟨3, Ld 41 40, [], false⟩, ⟨4, I 42 (.loadn 2) [T 4], [], false⟩, ⟨5, I 43 (.loadn 2) [T 5], [], false⟩, ⟨6, J (.mapput (.flat [.int, .int])) [T 41, T 42, T 43], [], false⟩]])
 (.seq (.draw [[⟨0, Ld 44 3, [], false⟩, ⟨1, Nc 45 44, [], false⟩, ⟨2, Fa 46 1 45, [], false⟩, ⟨3, Ld 47 46, [], false⟩, ⟨4, I 48 .lens [T 47], [], false⟩, ⟨5, Ld 49 3, [], false⟩, ⟨6, Nc 50 49, [], false⟩, ⟨7, Fa 51 0 50, [], false⟩, ⟨8, Ld 52 51, [], false⟩, ⟨9, Bi 53 .gtr (T 48) (T 52), [], false⟩]])
 (.cond (T 53)
 (.region [Ld 54 3, I 55 (.mkfunc 330 0) [T 3], Kc 56 [F 181, T 54, T 55]])
 (.skip))))))⟩
abbrev n_kern_Kernel_private : Nat := 263
def c_kern_Kernel_private : AFn := ⟨91, [.tmp 10, .tmp 11], .seq (.region [I 7 (.box 94 10) [T 2], Mn 10 0, Mn 11 0])
 (.seq (.region [Mv 17 0, Mv 18 1, Mv 19 3, Kc 20 [F 57, T 17, T 18, T 19], Mv 12 20])
 (.seq (.block 0 (.seq (.region [Mv 22 12, Bi 23 .gtr (T 22) (N 0), Mv 24 23, Mw 25 4 24 true, I 26 .pick [T 24, T 25, Tf], Mv 21 26])
 (.cond (T 21)
 (.seq (.region [Mv 27 0, Mv 28 1, Mv 29 3, Kc 30 [F 331, T 27, T 28, T 29], Xt 31 0 30, Xt 32 1 30, Mv 10 31, Mv 11 32])
 (.ret))
 (.seq (.region [Mv 34 12, Bi 35 .gtr (T 34) (N 0), Mv 33 35])
 (.cond (T 33)
 (.seq (.region [Mv 36 0, Mv 37 12, Kc 38 [F 332, T 36, T 37], Xt 39 0 38, Xt 40 1 38, Mv 10 39, Mv 11 40])
 (.ret))
 (.seq (.region [Fa 42 2 7, Ld 43 42, Bi 44 .eql (T 43) (N 0), Mv 41 44])
 (.cond (T 41)
 (.seq (.region [Mv 45 0, Mv 46 1, Mv 47 3, Kc 48 [F 333, T 45, T 46, T 47, N (-1)], Xt 49 0 48, Xt 50 1 48, Mv 10 49, Mv 11 50])
 (.ret))
 (.skip))))))))
 (.seq (.region [Mv 52 0, Fa 53 2 7, Ld 54 53, Fa 55 3 7, Ld 56 55, Mv 57 3, Bi 58 .add (T 56) (T 57), Fa 59 0 7, Ld 60 59, Bi 61 .sub (T 58) (T 60), Kc 62 [F 76, T 52, T 54, T 61], Mv 51 62, Xt 63 0 51, Xt 64 1 51, Xt 65 2 51, Mv 13 63, Mv 14 64, Mv 15 65])
 (.seq (.seq (.region [Mv 66 15, Bi 67 .neq (T 66) (N 0), Mv 68 67, Mw 69 4 68 false, IG 70 (.un .not) [T 69] 68 false, I 71 .pick [T 68, Tt, T 70]])
 (.cond (T 71)
 (.seq (.region [Mv 72 14, Mv 73 15, Mv 10 72, Mv 11 73])
 (.ret))
 (.skip)))
 (.seq (.seq (.region [Mv 74 1, Nc 75 74, Fa 76 2 75, Ld 77 76, Mv 78 3, Mv 79 14, Kc 80 [F 264, T 77, T 78, T 79, N 1], Mv 16 80])
 (.seq (.region [Mv 81 16, Bi 82 .neq (T 81) (N 0)])
 (.cond (T 82)
 (.seq (.region [Mv 83 16, Mn 10 (-1), Mv 11 83])
 (.ret))
 (.skip))))
 (.seq (.region [Mv 84 0, Mv 85 1, Mv 86 3, Mv 87 14, Kc 88 [F 333, T 84, T 85, T 86, T 87], Xt 89 0 88, Xt 90 1 88, Mv 10 89, Mv 11 90])
 (.ret)))))))⟩
abbrev n_pmap_Map_Enter : Nat := 264
def c_pmap_Map_Enter_L1 : ACode :=
 .seq (.region [Bi 92 .lss (T 91) (T 90)])
 (.seq (.cond (T 92)
 (.skip)
 (.exit 3))
 (.seq (.block 4 (.seq (.region [I 93 (.indexs 1) [T 89, T 91], Ld 94 93, Mv 19 94])
 (.region [Mv 95 19, Kc 96 [T 95]])))
 (.region [Bi 97 .add (T 91) (N 1), Mv 91 97])))
def c_pmap_Map_Enter_L0 : ACode :=
 .seq (.seq (.region [Mv 56 11, Bi 57 .gtr (T 56) (N 0)])
 (.cond (T 57)
 (.skip)
 (.exit 1)))
 (.seq (.block 2 (.seq (.region [Mv 60 9, Mv 61 1, Mv 62 11, Kc 63 [F 334, T 61, T 62], I 12 (.alloc 3 1 (.vals [Zi])) [], I 13 (.alloc 3 1 (.vals [Zi])) [], J (.store 1) [T 12, T 60], J (.store 1) [T 13, T 63]])
 (.seq (.region [Ld 65 4, Ld 66 12, Ld 67 13, Kc 68 [F 179, T 65, T 66, T 67], Mv 64 68, Xt 69 0 64, Xt 70 1 64, Mv 14 69, Mv 15 70])
 (.seq (.seq (.region [Mv 71 15, I 72 (.un .not) [T 71]])
 (.cond (T 72)
 (.seq (.draw [[⟨0, Ld 74 4, [], false⟩, ⟨1, Nc 75 74, [], false⟩, ⟨2, Fa 76 1 75, [], false⟩, ⟨3, Ld 77 76, [], false⟩, ⟨4, Ld 78 4, [], false⟩, ⟨5, Nc 79 78, [], false⟩, ⟨6, Fa 80 2 79, [], false⟩, ⟨7, Ld 81 80, [], false⟩, ⟨8, Mv 82 11, [], false⟩, ⟨9, Bi 83 .sub (N 3) (T 82), [], false⟩, ⟨10, Kc 84 [F 145, T 77, N 1, T 81, T 83], [], false⟩, ⟨11, Mv 73 84, [], false⟩, ⟨12, Xt 85 0 73, [], false⟩, ⟨13, Xt 86 1 73, [], false⟩, ⟨14, Mv 16 85, [], false⟩, ⟨15, Mv 17 86, [], false⟩]])
 (.seq (.seq (.region [Mv 87 17, Bi 88 .neq (T 87) (N 0)])
 (.cond (T 88)
 (.seq (.seq (.region [Mv 89 10, I 90 .lens [T 89], Mn 91 0])
 (.block 3 (.loop c_pmap_Map_Enter_L1)))
 (.seq (.region [Mv 98 17, Mv 8 98])
 (.ret)))
 (.skip)))
 (.seq (.region [Mv 99 16, Mv 14 99])
 (.seq (.region [Ld 100 4, Nc 101 100, Fa 102 0 101, Ld 103 102, Mv 104 16, Kc 105 [F 146, T 103, T 104]])
 (.seq (.draw [[⟨0, Ld 106 4, [], false⟩, ⟨1, Nc 107 106, [], false⟩, ⟨2, Fa 108 0 107, [], false⟩, ⟨3, Ld 109 108, [], false⟩, ⟨4, Ld 110 12, [], false⟩, ⟨5, Ld 111 13, [], false⟩, ⟨6, Mv 112 16, [], false⟩, ⟨7, I 113 (.build (.agg [Zi, Zi]) [(0, 1), (1, 1)]) [N 1, T 112], [], false⟩, ⟨8, Kc 114 [F 319, T 113], [(0, Ld 106 4), (3, Ld 109 108), (4, Ld 110 12), (5, Ld 111 13)], false⟩, ⟨9, Kc 115 [F 276, T 109, T 110, T 111, T 114], [], false⟩]])
 (.seq (.region [Ld 116 4, Nc 117 116, Fa 118 4 117, Ld 119 118, Bi 120 .add (T 119) (N 1), Nc 121 116, Fa 122 4 121, J (.store 1) [T 122, T 120]])
 (.region [Mv 123 10, I 124 (.mkfunc 335 0) [T 4, T 12, T 13], I 125 (.bslice 1 1 1 (.vals [.nilfunc]) [0]) [T 124], I 126 (.append 1 1 8 (.vals [.nilfunc])) [T 123, T 125], Mv 10 126])))))))
 (.skip)))
 (.region [Mv 127 14, Mv 9 127])))))
 (.region [Mv 58 11, Bi 59 .sub (T 58) (N 1), Mv 11 59]))
def c_pmap_Map_Enter : AFn := ⟨141, [.tmp 8], .seq (.region [I 4 (.box 97 1) [T 0], Mn 8 0])
 (.seq (.block 0 (.seq (.region [Ld 21 4, Kc 22 [F 178, T 21], I 23 (.un .not) [T 22], Mv 20 23])
 (.cond (T 20)
 (.seq (.region [Mn 8 1])
 (.ret))
 (.seq (.region (Mv 25 1 ::
 Bi 26 .lss (T 25) (N 0) ::
 Mv 27 26 ::
 Mw 28 1 27 false ::
 IG 29 (.bin .geq) [T 28, N 67108864] 27 false ::
 I 30 .pick [T 27, Tt, T 29] ::
 Mv 31 30 ::
 Mw 32 3 31 false ::
 IG 33 (.bin .lss) [T 32, N 1] 31 false ::
 I 34 .pick [T 31, Tt, T 33] ::
 Mv 35 34 ::
 Mw 36 3 35 false ::
 IG 37 (.bin .gtr) [T 36, N 7] 35 false ::
 I 38 .pick [T 35, Tt, T 37] ::
 Mv 39 38 ::
 Mw 40 2 39 false ::
 IG 41 (.bin .lss) [T 40, N 0] 39 false ::
 I 42 .pick [T 39, Tt, T 41] ::
 Mv 43 42 ::
 Mw 44 2 43 false ::
 IG 45 .load1 [T 4] 43 false ::
 IG 46 .nilCheck [T 45] 43 false ::
 IG 47 (.fieldAddr 0) [T 46] 43 false ::
 IG 48 .load1 [T 47] 43 false ::
 IG 49 .callv [F 44, T 48] 43 false ::
 IG 50 (.bin .geq) [T 44, T 49] 43 false ::
 I 51 .pick [T 43, Tt, T 50] ::
 Mv 24 51 ::
 []))
 (.cond (T 24)
 (.seq (.region [Mn 8 2])
 (.ret))
 (.skip))))))
 (.seq (.region [Ld 52 4, Nc 53 52, Fa 54 3 53, Ld 55 54, Mv 9 55])
 (.seq (.region [I 10 .mv [.lit .nilsl]])
 (.seq (.seq (.region [Mn 11 2])
 (.block 1 (.loop c_pmap_Map_Enter_L0)))
 (.seq (.draw [[⟨0, Ld 128 4, [], false⟩, ⟨1, Nc 129 128, [], false⟩, ⟨2, Fa 130 0 129, [], false⟩, ⟨3, Ld 131 130, [], false⟩, ⟨4, Mv 132 9, [], false⟩, ⟨5, Mv 133 1, [], false⟩, ⟨7, Mv 135 3, [], false⟩, ⟨9, Mv 137 2, [], false⟩, ⟨6, Kc 134 [F 334, T 133, N 0], [(0, Ld 128 4), (3, Ld 131 130)], false⟩, ⟨8, Kc 136 [F 336, T 135, Tt], [(0, Ld 128 4), (3, Ld 131 130)], false⟩, ⟨10, I 138 (.build (.agg [Zi, Zi]) [(0, 1), (1, 1)]) [T 136, T 137], [], false⟩, ⟨11, Kc 139 [F 319, T 138], [(0, Ld 128 4), (3, Ld 131 130)], false⟩, ⟨12, Kc 140 [F 276, T 131, T 132, T 134, T 139], [], false⟩]])
 (.seq (.region [Mn 8 0])
 (.ret)))))))⟩
abbrev n_kern_proc_split_1 : Nat := 265
def c_kern_proc_split_1 : AFn := ⟨14, [.tmp 3], .seq (.region [I 2 (.box 168 6) [T 0], I 3 .mv [Tf]])
 (.seq (.region [Fa 4 0 2, Ld 5 4, Ld 6 1, Bi 7 .lss (T 5) (T 6), Mv 8 7, IG 9 .load1 [T 1] 8 true, IG 10 (.fieldAddr 1) [T 2] 8 true, IG 11 .load1 [T 10] 8 true, IG 12 (.bin .lss) [T 9, T 11] 8 true, I 13 .pick [T 8, T 12, Tf], Mv 3 13])
 (.ret))⟩
abbrev n_kern_Kernel_begin : Nat := 266
def c_kern_Kernel_begin_L0 : ACode :=
 .seq (.region [Bi 35 .lss (T 34) (T 33)])
 (.seq (.cond (T 35)
 (.skip)
 (.exit 0))
 (.seq (.block 1 (.seq (.region [I 36 (.indexs 6) [T 32, T 34], I 37 (.loadn 6) [T 36], I 12 (.alloc 168 6 (.vals [Zi, Zi, Zi, Zi, (.bool false), (.bool false)])) [], J (.store 6) [T 12, T 37]])
 (.seq (.region [Fa 38 1 12, Ld 39 38, Mv 40 2, Bi 41 .leq (T 39) (T 40)])
 (.cond (T 41)
 (.region [Fa 42 0 10, Ld 43 42, Fa 44 1 12, Ld 45 44, I 46 (.max) [T 43, T 45], Fa 47 0 10, J (.store 1) [T 47, T 46]])
 (.region [Fa 48 1 10, Ld 49 48, Fa 50 0 12, Ld 51 50, I 52 (.min) [T 49, T 51], Fa 53 1 10, J (.store 1) [T 53, T 52]])))))
 (.region [Bi 54 .add (T 34) (N 1), Mv 34 54])))
def c_kern_Kernel_begin : AFn := ⟨79, [.tmp 6, .tmp 7], .seq (.region [I 6 .mv [.lit .nilptr], Mn 7 0])
 (.seq (.region [Mv 16 1, Nc 17 16, Fa 18 1 17, Ld 19 18, Mv 20 2, Kc 21 [F 55, T 19, T 20], Mv 15 21, Xt 22 0 15, Xt 23 1 15, I 8 (.alloc 94 10 (.vals [Zi, Zi, Zi, Zi, (.bool false), Zi, Zi, Zi, Zi, (.bool false)])) [], J (.store 10) [T 8, T 22], Mv 9 23])
 (.seq (.region [Fa 24 0 8, Ld 25 24, Fa 26 1 8, Ld 27 26, I 28 (.build (.agg [Zi, Zi, Zi, Zi, (.bool false), (.bool false)]) [(0, 1), (1, 1)]) [T 25, T 27], I 10 (.alloc 168 6 (.vals [Zi, Zi, Zi, Zi, (.bool false), (.bool false)])) [], J (.store 6) [T 10, T 28]])
 (.seq (.seq (.region [Mv 29 1, Nc 30 29, Fa 31 3 30, Ld 32 31, I 33 .lens [T 32], Mn 34 0])
 (.block 0 (.loop c_kern_Kernel_begin_L0)))
 (.seq (.draw [[⟨0, Mv 56 0, [], false⟩, ⟨1, Nc 57 56, [], false⟩, ⟨2, Fa 58 6 57, [], false⟩, ⟨3, Ld 59 58, [], false⟩, ⟨4, Fa 60 1 10, [], false⟩, ⟨5, Ld 61 60, [], false⟩, ⟨6, Fa 62 0 10, [], false⟩, ⟨7, Ld 63 62, [], false⟩, ⟨8, Bi 64 .sub (T 61) (T 63), [], false⟩, ⟨9, Kc 65 [F 93, T 59, T 64], [], false⟩, ⟨10, Mv 55 65, [], false⟩, ⟨11, Xt 66 0 55, [], false⟩, ⟨12, Xt 67 1 55, [], false⟩, ⟨13, Mv 13 66, [], false⟩, ⟨14, Mv 14 67, [], false⟩]])
 (.seq (.seq (.region [Mv 68 14, Bi 69 .neq (T 68) (N 0)])
 (.cond (T 69)
 (.seq (.region [Mv 70 14, I 6 .mv [.lit .nilptr], Mv 7 70])
 (.ret))
 (.skip)))
 (.seq (.region [Mv 71 13, Fa 72 2 10, J (.store 1) [T 72, T 71]])
 (.seq (.region [Mv 73 1, I 74 (.loadn 6) [T 10], Kc 75 [F 96, T 73, T 74]])
 (.seq (.region [Mv 76 1, Mv 77 2, Kc 78 [F 125, T 76, T 77], Mv 6 78, Mn 7 0])
 (.ret)))))))))⟩
abbrev n_amap_Pool_Cover : Nat := 267
def c_amap_Pool_Cover : AFn := ⟨20, [.tmp 6], .seq (.region [Mn 6 0])
 (.seq (.region [Mv 8 0, Mv 9 1, Kc 10 [F 228, T 8, T 9], Mv 7 10])
 (.seq (.seq (.region [Mv 11 7, I 12 (.eqv false .ptr) [T 11, .lit .nilptr]])
 (.cond (T 12)
 (.seq (.region [Mn 6 0])
 (.ret))
 (.skip)))
 (.seq (.region [Mv 13 7, Nc 14 13, Fa 15 0 14, Ld 16 15, Mv 17 2, Kc 18 [F 337, T 16, T 17], I 19 (.max) [T 18, N 0], Mv 6 19])
 (.ret))))⟩
abbrev n_amap_Pool_Copy : Nat := 268
def c_amap_Pool_Copy_A0 : ACode :=
 .region [Mv 16 60]
def c_amap_Pool_Copy_B0 : ACode :=
 .block 1 (.region [Ld 61 14, Mv 62 16, I 63 (.bslice 3 1 1 (.vals [Zi]) [0]) [T 62], I 64 (.append 3 1 8 (.vals [Zi])) [T 61, T 63], J (.store 1) [T 14, T 64]])
def c_amap_Pool_Copy : AFn := ⟨67, [.tmp 8, .tmp 9, .tmp 10], .seq (.region [Mn 8 0, I 9 .mv [.lit .nilsl], Mn 10 0])
 (.seq (.region [Mv 18 0, Mv 19 1, Kc 20 [F 270, T 18, T 19], Mv 17 20, Xt 21 0 17, Xt 22 1 17, Mv 11 21, Mv 12 22])
 (.seq (.seq (.region [Mv 23 12, Bi 24 .neq (T 23) (N 0)])
 (.cond (T 24)
 (.seq (.region [Mv 25 12, Mn 8 0, I 9 .mv [.lit .nilsl], Mv 10 25])
 (.ret))
 (.skip)))
 (.seq (.seq (.region [Mv 26 11, Mv 27 2, Mv 28 3, Kc 29 [F 271, T 26, T 27, T 28], I 30 (.un .not) [T 29]])
 (.cond (T 30)
 (.seq (.region [Mn 8 0, I 9 .mv [.lit .nilsl], Mn 10 2])
 (.ret))
 (.skip)))
 (.seq (.region [Mv 32 0, Mv 33 3, Mv 34 2, Bi 35 .sub (T 33) (T 34), Kc 36 [F 93, T 32, T 35], Mv 31 36, Xt 37 0 31, Xt 38 1 31, Mv 13 37, Mv 12 38])
 (.seq (.seq (.region [Mv 39 12, Bi 40 .neq (T 39) (N 0)])
 (.cond (T 40)
 (.seq (.region [Mv 41 12, Mn 8 0, I 9 .mv [.lit .nilsl], Mv 10 41])
 (.ret))
 (.skip)))
 (.seq (.draw [[⟨0, Mv 42 0, [], false⟩, ⟨1, Mv 43 13, [], false⟩, ⟨6, Mv 48 11, [], false⟩, ⟨7, Nc 49 48, [], false⟩, ⟨8, Fa 50 1 49, [], false⟩, ⟨9, Ld 51 50, [], false⟩, ⟨10, Mv 52 2, [], false⟩, ⟨11, Mv 53 3, [], false⟩, ⟨12, I 54 (.slice 1 true true false) [T 51, T 52, T 53], [], false⟩, ⟨2, Kc 44 [F 228, T 42, T 43], [(9, Ld 51 50)], false⟩, ⟨3, Nc 45 44, [], false⟩, ⟨4, Fa 46 1 45, [], false⟩, ⟨5, Ld 47 46, [], false⟩, ⟨13, I 55 (.copy 1) [T 47, T 54], [], false⟩]])
 (.seq (.region [I 14 (.alloc 34 1 (.vals [.nilsl])) []])
 (.seq (.seq (.region [Mv 56 0, Mv 57 13, Kc 58 [F 338, T 56, T 57]])
 (.block 0 (.rfun (T 58) [59, 60] c_amap_Pool_Copy_A0 c_amap_Pool_Copy_B0)))
 (.seq (.draw [[⟨0, Mv 65 13, [], false⟩, ⟨1, Ld 66 14, [], false⟩, ⟨2, Mv 8 65, [], false⟩, ⟨3, Mv 9 66, [], false⟩, ⟨4, Mn 10 0, [], false⟩]])
 (.ret))))))))))⟩
abbrev n_anon_Pool_Ref : Nat := 269
def c_anon_Pool_Ref : AFn := ⟨14, [.cell 6 (.loadn 3), .tmp 7], .seq (.region [I 5 (.box 3 1) [T 2], I 6 (.alloc 103 3 (.vals [Zi, Zi, Zi])) [], Mn 7 0])
 (.seq (.region [Mv 8 0, Mv 9 1, I 10 (.mkfunc 339 0) [T 5], Kc 11 [F 215, T 8, T 9, T 10], Xt 12 0 11, Xt 13 1 11, J (.store 3) [T 6, T 12], Mv 7 13])
 (.ret))⟩
abbrev n_amap_Pool_known : Nat := 270
def c_amap_Pool_known : AFn := ⟨16, [.tmp 4, .tmp 5], .seq (.region [I 4 .mv [.lit .nilptr], Mn 5 0])
 (.seq (.seq (.region [Mv 7 0, Kc 8 [F 184, T 7], I 9 (.un .not) [T 8]])
 (.cond (T 9)
 (.seq (.region [I 4 .mv [.lit .nilptr], Mn 5 1])
 (.ret))
 (.skip)))
 (.seq (.region [Mv 10 0, Mv 11 1, Kc 12 [F 228, T 10, T 11], Mv 6 12])
 (.seq (.seq (.region [Mv 13 6, I 14 (.eqv false .ptr) [T 13, .lit .nilptr]])
 (.cond (T 14)
 (.seq (.region [I 4 .mv [.lit .nilptr], Mn 5 7])
 (.ret))
 (.skip)))
 (.seq (.region [Mv 15 6, Mv 4 15, Mn 5 0])
 (.ret)))))⟩
abbrev n_amap_one_within : Nat := 271
def c_amap_one_within : AFn := ⟨23, [.tmp 6], .seq (.region [I 6 .mv [Tf]])
 (.seq (.region [Mv 7 1, Bi 8 .geq (T 7) (N 0), Mv 9 8, Mw 10 1 9 true, Mw 11 2 9 true, IG 12 (.bin .lss) [T 10, T 11] 9 true, I 13 .pick [T 9, T 12, Tf], Mv 14 13, Mw 15 2 14 true, Mw 16 0 14 true, IG 17 .nilCheck [T 16] 14 true, IG 18 (.fieldAddr 1) [T 17] 14 true, IG 19 .load1 [T 18] 14 true, IG 20 .lens [T 19] 14 true, IG 21 (.bin .leq) [T 15, T 20] 14 true, I 22 .pick [T 14, T 21, Tf], Mv 6 22])
 (.ret))⟩
abbrev n_spread_Counts_Runs : Nat := 272
def c_spread_Counts_Runs : AFn := ⟨11, [.tmp 2], .seq (.region [I 2 .mv [.lit .nilsl]])
 (.seq (.seq (.region [Mv 3 0, Kc 4 [F 278, T 3], I 5 (.un .not) [T 4]])
 (.cond (T 5)
 (.seq (.region [I 2 .mv [.lit .nilsl]])
 (.ret))
 (.skip)))
 (.seq (.region [Mv 6 0, Nc 7 6, Fa 8 0 7, Ld 9 8, Kc 10 [F 281, T 9], Mv 2 10])
 (.ret)))⟩
abbrev n_phys_Memory_Word : Nat := 273
def c_phys_Memory_Word_L0 : ACode :=
 .seq (.seq (.region [Mv 20 10, Bi 21 .geq (T 20) (N 0)])
 (.cond (T 21)
 (.skip)
 (.exit 0)))
 (.seq (.block 1 (.region [Mv 24 9, I 25 (.bin .shl) [T 24, .lit (.int .u64 8)], Mv 26 8, Mv 27 10, I 28 (.indexs 1) [T 26, T 27], Ld 29 28, I 30 (.conv .u64) [T 29], Bi 31 .or (T 25) (T 30), Mv 9 31]))
 (.region [Mv 22 10, Bi 23 .sub (T 22) (N 1), Mv 10 23]))
def c_phys_Memory_Word : AFn := ⟨33, [.tmp 6, .tmp 7], .seq (.region [I 6 .mv [.lit (.int .u64 0)], I 7 .mv [Tf]])
 (.seq (.region [Mv 11 0, Mv 12 1, Mv 13 2, Kc 14 [F 340, T 11, T 12, T 13], Mv 8 14])
 (.seq (.seq (.region [Mv 15 8, I 16 (.eqv false .slice) [T 15, .lit .nilsl]])
 (.cond (T 16)
 (.seq (.region [I 6 .mv [.lit (.int .u64 0)], I 7 .mv [Tf]])
 (.ret))
 (.skip)))
 (.seq (.region [I 9 .mv [.lit (.int .u64 0)]])
 (.seq (.seq (.region [Mv 17 8, I 18 .lens [T 17], Bi 19 .sub (T 18) (N 1), Mv 10 19])
 (.block 0 (.loop c_phys_Memory_Word_L0)))
 (.seq (.region [Mv 32 9, Mv 6 32, I 7 .mv [Tt]])
 (.ret))))))⟩
abbrev n_pte_Decode : Nat := 274
def c_pte_Decode : AFn := ⟨11, [.cell 2 (.loadn 2)], .seq (.region [I 2 (.alloc 204 2 (.vals [Zi, Zi])) []])
 (.seq (.region [Mv 3 0, Kc 4 [F 341, T 3, N 8], I 5 (.conv .i64) [T 4], Mv 6 0, I 7 (.bin .shr) [T 6, .lit (.int .u64 10)], Kc 8 [F 341, T 7, N 44], I 9 (.conv .i64) [T 8], I 10 (.build (.agg [Zi, Zi]) [(0, 1), (1, 1)]) [T 5, T 9], J (.store 2) [T 2, T 10]])
 (.ret))⟩
abbrev n_pte_Kind : Nat := 275
def c_pte_Kind : AFn := ⟨19, [.tmp 2], .seq (.region [I 1 (.box 204 2) [T 0], Mn 2 0])
 (.seq (.block 0 (.seq (.region [Fa 4 0 1, Ld 5 4, Bi 6 .and (T 5) (N 1), Bi 7 .eql (T 6) (N 0), Mv 8 7, IG 9 (.fieldAddr 0) [T 1] 8 false, IG 10 .load1 [T 9] 8 false, IG 11 (.bin .and) [T 10, N 6] 8 false, IG 12 (.bin .eql) [T 11, N 4] 8 false, I 13 .pick [T 8, Tt, T 12], Mv 3 13])
 (.cond (T 3)
 (.seq (.region [Mn 2 0])
 (.ret))
 (.seq (.region [Fa 15 0 1, Ld 16 15, Bi 17 .and (T 16) (N 10), Bi 18 .eql (T 17) (N 0), Mv 14 18])
 (.cond (T 14)
 (.seq (.region [Mn 2 1])
 (.ret))
 (.skip))))))
 (.seq (.region [Mn 2 2])
 (.ret)))⟩
abbrev n_phys_Memory_SetWord : Nat := 276
def c_phys_Memory_SetWord_L0 : ACode :=
 .seq (.region [Bi 20 .lss (T 19) (T 18)])
 (.seq (.cond (T 20)
 (.skip)
 (.exit 0))
 (.seq (.block 1 (.seq (.region [Mv 21 19, Mv 10 21])
 (.seq (.region [Mv 22 9, Mv 23 10, Mv 24 3, I 25 (.conv .u8) [T 24], I 26 (.indexs 1) [T 22, T 23], J (.store 1) [T 26, T 25]])
 (.region [Mv 27 3, I 28 (.bin .shr) [T 27, .lit (.int .u64 8)], Mv 3 28]))))
 (.region [Bi 29 .add (T 19) (N 1), Mv 19 29])))
def c_phys_Memory_SetWord : AFn := ⟨30, [.tmp 8], .seq (.region [I 8 .mv [Tf]])
 (.seq (.region [Mv 11 0, Mv 12 1, Mv 13 2, Kc 14 [F 340, T 11, T 12, T 13], Mv 9 14])
 (.seq (.seq (.region [Mv 15 9, I 16 (.eqv false .slice) [T 15, .lit .nilsl]])
 (.cond (T 16)
 (.seq (.region [I 8 .mv [Tf]])
 (.ret))
 (.skip)))
 (.seq (.seq (.region [Mv 17 9, I 18 .lens [T 17], Mn 19 0])
 (.block 0 (.loop c_phys_Memory_SetWord_L0)))
 (.seq (.region [I 8 .mv [Tt]])
 (.ret)))))⟩
abbrev n_spread_Counts_Grow : Nat := 277
def c_spread_Counts_Grow : AFn := ⟨47, [.tmp 4], .seq (.region [Mn 4 0])
 (.seq (.block 0 (.seq (.region [Mv 6 0, Kc 7 [F 278, T 6], I 8 (.un .not) [T 7], Mv 5 8])
 (.cond (T 5)
 (.seq (.region [Mn 4 1])
 (.ret))
 (.seq (.region [Mv 10 1, Mv 11 0, Nc 12 11, Fa 13 1 12, Ld 14 13, Bi 15 .lss (T 10) (T 14), Mv 16 15, Mw 17 1 16 false, IG 18 (.bin .gtr) [T 17, N 4096] 16 false, I 19 .pick [T 16, Tt, T 18], Mv 9 19])
 (.cond (T 9)
 (.seq (.region [Mn 4 2])
 (.ret))
 (.skip))))))
 (.seq (.seq (.region [Mv 20 1, Mv 21 0, Nc 22 21, Fa 23 1 22, Ld 24 23, Bi 25 .gtr (T 20) (T 24)])
 (.cond (T 25)
 (.draw [[⟨0, Mv 26 0, [], false⟩, ⟨1, Mv 27 0, [], false⟩, ⟨2, Nc 28 27, [], false⟩, ⟨3, Fa 29 0 28, [], false⟩, ⟨4, Ld 30 29, [], false⟩, ⟨6, Mv 32 0, [], false⟩, ⟨7, Nc 33 32, [], false⟩, ⟨8, Fa 34 1 33, [], false⟩, ⟨9, Ld 35 34, [], false⟩, ⟨10, Mv 36 1, [], false⟩, ⟨11, I 37 (.build (.agg [Zi, Zi, Zi]) [(0, 1), (1, 1)]) [T 35, T 36], [], false⟩, ⟨5, Kc 31 [F 281, T 30], [(9, Ld 35 34)], false⟩, ⟨12, I 38 (.bslice 323 3 1 (.vals [Zi, Zi, Zi]) [0]) [T 37], [(4, Ld 30 29)], false⟩, ⟨13, I 39 (.append 323 3 24 (.vals [Zi, Zi, Zi])) [T 31, T 38], [], false⟩, ⟨14, Kc 40 [F 282, T 39], [], false⟩, ⟨15, Nc 41 26, [], false⟩, ⟨16, Fa 42 0 41, [], false⟩, ⟨17, J (.store 1) [T 42, T 40], [], false⟩],
[⟨0, Mv 26 0, [], false⟩, ⟨1, Mv 27 0, [], false⟩, ⟨2, Nc 28 27, [], false⟩, ⟨3, Fa 29 0 28, [], false⟩, ⟨4, Ld 30 29, [], false⟩, ⟨6, Mv 32 0, [], false⟩, ⟨7, Nc 33 32, [], false⟩, ⟨8, Fa 34 1 33, [], false⟩, ⟨9, Ld 35 34, [], false⟩, ⟨10, Mv 36 1, [], false⟩, ⟨11, I 37 (.build (.agg [Zi, Zi, Zi]) [(0, 1), (1, 1)]) [T 35, T 36], [], false⟩, ⟨12, I 38 (.bslice 323 3 1 (.vals [Zi, Zi, Zi]) [0]) [T 37], [(4, Ld 30 29)], false⟩, ⟨5, Kc 31 [F 281, T 30], [(9, Ld 35 34)], false⟩, ⟨13, I 39 (.append 323 3 24 (.vals [Zi, Zi, Zi])) [T 31, T 38], [], false⟩, ⟨14, Kc 40 [F 282, T 39], [], false⟩, ⟨15, Nc 41 26, [], false⟩, ⟨16, Fa 42 0 41, [], false⟩, ⟨17, J (.store 1) [T 42, T 40], [], false⟩]])
 (.skip)))
 (.seq (.region [Mv 43 0, Mv 44 1, Nc 45 43, Fa 46 1 45, J (.store 1) [T 46, T 44]])
 (.seq (.region [Mn 4 0])
 (.ret)))))⟩
abbrev n_spread_Counts_made : Nat := 278
def c_spread_Counts_made : AFn := ⟨11, [.tmp 2], .seq (.region [I 2 .mv [Tf]])
 (.seq (.region [Mv 3 0, I 4 (.eqv true .ptr) [T 3, .lit .nilptr], Mv 5 4, Mw 6 0 5 true, IG 7 .nilCheck [T 6] 5 true, IG 8 (.fieldAddr 2) [T 7] 5 true, IG 9 .load1 [T 8] 5 true, I 10 .pick [T 5, T 9, Tf], Mv 2 10])
 (.ret))⟩
abbrev n_spread_Counts_parts : Nat := 279
def c_spread_Counts_parts : AFn := ⟨8, [.tmp 6], .seq (.region [I 3 (.box 247 1) [T 0], I 4 (.box 3 1) [T 1], I 5 (.box 3 1) [T 2], I 6 .mv [.lit .nilfunc]])
 (.seq (.region [I 7 (.mkfunc 342 0) [T 3, T 4, T 5], Mv 6 7])
 (.ret))⟩
abbrev n_spread_split : Nat := 280
def c_spread_split : AFn := ⟨39, [.tmp 4], .seq (.region [I 3 (.box 3 1) [T 1], I 4 .mv [.lit .nilsl]])
 (.seq (.region [Mv 8 0, I 9 (.mkfunc 344 0) [T 3], Kc 10 [F 343, T 8, T 9], Mv 5 10])
 (.seq (.seq (.region [Mv 11 5, Bi 12 .lss (T 11) (N 0)])
 (.cond (T 12)
 (.seq (.region [Mv 13 0, Mv 4 13])
 (.ret))
 (.skip)))
 (.seq (.draw [[⟨0, Mv 14 0, [], false⟩, ⟨1, Mv 15 5, [], false⟩, ⟨2, I 16 (.indexs 3) [T 14, T 15], [], false⟩, ⟨3, I 17 (.loadn 3) [T 16], [], false⟩, ⟨4, Mv 18 0, [], false⟩, ⟨5, Mv 19 5, [], false⟩, ⟨6, I 20 (.indexs 3) [T 18, T 19], [], false⟩, ⟨7, I 21 (.loadn 3) [T 20], [], false⟩, ⟨8, I 6 (.alloc 323 3 (.vals [Zi, Zi, Zi])) [], [(3, I 17 (.loadn 3) [T 16]), (7, I 21 (.loadn 3) [T 20])], false⟩, ⟨9, I 7 (.alloc 323 3 (.vals [Zi, Zi, Zi])) [], [(3, I 17 (.loadn 3) [T 16]), (7, I 21 (.loadn 3) [T 20])], false⟩, ⟨10, J (.store 3) [T 6, T 17], [(7, I 21 (.loadn 3) [T 20])], false⟩, ⟨11, J (.store 3) [T 7, T 21], [], false⟩],
[⟨0, Mv 14 0, [], false⟩, ⟨1, Mv 15 5, [], false⟩, ⟨2, I 16 (.indexs 3) [T 14, T 15], [], false⟩, ⟨3, I 17 (.loadn 3) [T 16], [], false⟩, ⟨4, Mv 18 0, [], false⟩, ⟨5, Mv 19 5, [], false⟩, ⟨6, I 20 (.indexs 3) [T 18, T 19], [], false⟩, ⟨7, I 21 (.loadn 3) [T 20], [], false⟩, ⟨9, I 7 (.alloc 323 3 (.vals [Zi, Zi, Zi])) [], [(3, I 17 (.loadn 3) [T 16]), (7, I 21 (.loadn 3) [T 20])], false⟩, ⟨8, I 6 (.alloc 323 3 (.vals [Zi, Zi, Zi])) [], [(3, I 17 (.loadn 3) [T 16]), (7, I 21 (.loadn 3) [T 20])], false⟩, ⟨10, J (.store 3) [T 6, T 17], [(7, I 21 (.loadn 3) [T 20])], false⟩, ⟨11, J (.store 3) [T 7, T 21], [], false⟩]])
 (.seq (.draw [[⟨0, Ld 22 3, [], false⟩, ⟨1, Ld 23 3, [], false⟩, ⟨2, Fa 24 1 6, [], false⟩, ⟨3, J (.store 1) [T 24, T 22], [(1, Ld 23 3)], false⟩, ⟨4, Fa 25 0 7, [], false⟩, ⟨5, J (.store 1) [T 25, T 23], [], false⟩]])
 (.seq (.draw [[⟨0, Mv 26 0, [], false⟩, ⟨1, Mv 27 5, [], false⟩, ⟨2, Mv 28 5, [], false⟩, ⟨3, I 29 (.slice 3 false true true) [T 26, T 27, T 28], [], false⟩, ⟨4, I 30 (.loadn 3) [T 6], [], false⟩, ⟨5, I 31 (.loadn 3) [T 7], [], false⟩, ⟨7, Mv 33 0, [], false⟩, ⟨8, Mv 34 5, [], false⟩, ⟨9, Bi 35 .add (T 34) (N 1), [], false⟩, ⟨10, I 36 (.slice 3 true false false) [T 33, T 35], [], false⟩, ⟨6, I 32 (.bslice 323 3 2 (.vals [Zi, Zi, Zi]) [0, 1]) [T 30, T 31], [], false⟩, ⟨11, I 37 (.bslice 320 1 3 (.vals [.nilsl]) [0, 1, 2]) [T 29, T 32, T 36], [], false⟩, ⟨12, Kc 38 [F 345, T 37], [], false⟩, ⟨13, Mv 4 38, [], false⟩]])
 (.ret))))))⟩
abbrev n_slices_Clone_api_Run_api_Run : Nat := 281
def c_slices_Clone_api_Run_api_Run : AFn := ⟨8, [.tmp 2], .seq (.region [I 2 .mv [.lit .nilsl]])
 (.seq (.seq (.region [Mv 3 0, I 4 (.eqv false .slice) [T 3, .lit .nilsl]])
 (.cond (T 4)
 (.seq (.region [I 2 .mv [.lit .nilsl]])
 (.ret))
 (.skip)))
 (.seq (.region [I 5 (.bslice 323 3 0 (.vals [Zi, Zi, Zi]) []) [], Mv 6 0, I 7 (.append 323 3 24 (.vals [Zi, Zi, Zi])) [T 5, T 6], Mv 2 7])
 (.ret)))⟩
abbrev n_spread_join : Nat := 282
def c_spread_join_L0 : ACode :=
 .seq (.region [Bi 10 .lss (T 9) (T 8)])
 (.seq (.cond (T 10)
 (.skip)
 (.exit 0))
 (.seq (.block 1 (.seq (.region [I 11 (.indexs 3) [T 7, T 9], I 12 (.loadn 3) [T 11], I 5 (.alloc 323 3 (.vals [Zi, Zi, Zi])) [], J (.store 3) [T 5, T 12]])
 (.seq (.region [Mv 13 3, I 14 .lens [T 13], Bi 15 .sub (T 14) (N 1), Mv 6 15])
 (.seq (.draw [[⟨0, Mv 16 6, [], false⟩, ⟨1, Bi 17 .geq (T 16) (N 0), [], false⟩, ⟨2, Mv 18 17, [], false⟩, ⟨3, Mw 19 3 18 true, [], false⟩, ⟨4, Mw 20 6 18 true, [], false⟩, ⟨5, IG 21 (.indexs 3) [T 19, T 20] 18 true, [], false⟩, ⟨6, IG 22 (.fieldAddr 2) [T 21] 18 true, [], false⟩, ⟨7, IG 23 .load1 [T 22] 18 true, [], false⟩, ⟨8, IG 24 (.fieldAddr 2) [T 5] 18 true, [], false⟩, ⟨9, IG 25 .load1 [T 24] 18 true, [], false⟩, ⟨10, IG 26 (.bin .eql) [T 23, T 25] 18 true, [], false⟩, ⟨11, I 27 .pick [T 18, T 26, Tf], [], false⟩]])
 (.cond (T 27)
 (.region [Mv 28 3, Mv 29 6, Fa 30 1 5, Ld 31 30, I 32 (.indexs 3) [T 28, T 29], Fa 33 1 32, J (.store 1) [T 33, T 31]])
 (.region [Mv 34 3, I 35 (.loadn 3) [T 5], I 36 (.bslice 323 3 1 (.vals [Zi, Zi, Zi]) [0]) [T 35], I 37 (.append 323 3 24 (.vals [Zi, Zi, Zi])) [T 34, T 36], Mv 3 37]))))))
 (.region [Bi 38 .add (T 9) (N 1), Mv 9 38])))
def c_spread_join : AFn := ⟨40, [.tmp 2], .seq (.region [I 2 .mv [.lit .nilsl]])
 (.seq (.region [I 3 .mv [.lit .nilsl]])
 (.seq (.seq (.region [Mv 7 0, I 8 .lens [T 7], Mn 9 0])
 (.block 0 (.loop c_spread_join_L0)))
 (.seq (.region [Mv 39 3, Mv 2 39])
 (.ret))))⟩
abbrev n_frames_Pool_Own_1 : Nat := 284
def c_frames_Pool_Own_1 : AFn := ⟨24, [.tmp 5], .seq (.region [Mn 5 0])
 (.seq (.seq (.region [Ld 6 1, Bi 7 .lss (T 6) (N 1), Mv 8 7, IG 9 .load1 [T 1] 8 false, IG 10 (.bin .gtr) [T 9, N 4] 8 false, I 11 .pick [T 8, Tt, T 10]])
 (.cond (T 11)
 (.seq (.region [Mn 5 2])
 (.ret))
 (.skip)))
 (.seq (.draw [[⟨0, Mv 12 0, [], false⟩, ⟨1, Mv 13 0, [], false⟩, ⟨2, Mv 14 0, [], false⟩, ⟨3, Ld 15 1, [], false⟩, ⟨4, Ld 16 2, [], false⟩, ⟨5, Ld 17 3, [], false⟩, ⟨6, Nc 18 12, [], false⟩, ⟨7, Fa 19 0 18, [], false⟩, ⟨8, J (.store 1) [T 19, T 15], [(4, Ld 16 2), (5, Ld 17 3)], false⟩, ⟨9, Nc 20 13, [], false⟩, ⟨10, Fa 21 1 20, [], false⟩, ⟨11, J (.store 1) [T 21, T 16], [(5, Ld 17 3)], false⟩, ⟨12, Nc 22 14, [], false⟩, ⟨13, Fa 23 2 22, [], false⟩, ⟨14, J (.store 1) [T 23, T 17], [], false⟩]])
 (.seq (.region [Mn 5 0])
 (.ret))))⟩
abbrev n_spread_Counts_Sum : Nat := 285
def c_spread_Counts_Sum_A0 : ACode :=
 .region [I 4 (.alloc 323 3 (.vals [Zi, Zi, Zi])) [], J (.store 3) [T 4, T 9]]
def c_spread_Counts_Sum_B0 : ACode :=
 .block 1 (.region [Ld 10 3, Fa 11 2 4, Ld 12 11, Fa 13 1 4, Ld 14 13, Fa 15 0 4, Ld 16 15, Bi 17 .sub (T 14) (T 16), Bi 18 .mul (T 12) (T 17), Bi 19 .add (T 10) (T 18), J (.store 1) [T 3, T 19]])
def c_spread_Counts_Sum : AFn := ⟨21, [.tmp 2], .seq (.region [Mn 2 0])
 (.seq (.region [I 3 (.alloc 3 1 (.vals [Zi])) [], J (.store 1) [T 3, N 0]])
 (.seq (.seq (.region [Mv 5 0, Mv 6 0, Kc 7 [F 346, T 6], Kc 8 [F 279, T 5, N 0, T 7]])
 (.block 0 (.rfun (T 8) [9] c_spread_Counts_Sum_A0 c_spread_Counts_Sum_B0)))
 (.seq (.region [Ld 20 3, Mv 2 20])
 (.ret))))⟩
abbrev n_pmap_Map_Remove : Nat := 290
def c_pmap_Map_Remove : AFn := ⟨8, [.tmp 4], .seq (.region [I 4 .mv [Tf]])
 (.seq (.region [Mv 5 0, Mv 6 1, Kc 7 [F 241, T 5, T 6, F 348], Mv 4 7])
 (.ret))⟩
abbrev n_slots_Slots_TakeRun : Nat := 293
def c_slots_Slots_TakeRun_L1 : ACode :=
 .seq (.seq (.region [Mv 37 7, Mv 38 6, Bi 39 .geq (T 37) (T 38)])
 (.cond (T 39)
 (.skip)
 (.exit 2)))
 (.seq (.block 3 (.seq (.region [Mv 42 0, Nc 43 42, Fa 44 1 43, Ld 45 44, Mv 46 7, Kc 47 [F 324, T 45, T 46]])
 (.cond (T 47)
 (.seq (.region [Mv 48 7, Mv 6 48])
 (.exit 1))
 (.skip))))
 (.region [Mv 40 7, Bi 41 .sub (T 40) (N 1), Mv 7 41]))
def c_slots_Slots_TakeRun_L2 : ACode :=
 .seq (.region [Bi 51 .lss (T 50) (T 49)])
 (.seq (.cond (T 51)
 (.skip)
 (.exit 4))
 (.seq (.block 5 (.seq (.region [Mv 52 50, Mv 8 52])
 (.region [Mv 53 0, Nc 54 53, Fa 55 1 54, Ld 56 55, Mv 57 6, Mv 58 8, Bi 59 .add (T 57) (T 58), Kc 60 [F 295, T 56, T 59]])))
 (.region [Bi 61 .add (T 50) (N 1), Mv 50 61])))
def c_slots_Slots_TakeRun_L0 : ACode :=
 .seq (.seq (.region [Mv 23 6, Mv 24 0, Nc 25 24, Fa 26 0 25, Ld 27 26, Mv 28 1, Bi 29 .sub (T 27) (T 28), Bi 30 .leq (T 23) (T 29)])
 (.cond (T 30)
 (.skip)
 (.exit 0)))
 (.seq (.block 1 (.seq (.seq (.region [Mv 33 6, Mv 34 1, Bi 35 .add (T 33) (T 34), Bi 36 .sub (T 35) (N 1), Mv 7 36])
 (.block 2 (.loop c_slots_Slots_TakeRun_L1)))
 (.seq (.seq (.region [Mv 49 1, Mn 50 0])
 (.block 4 (.loop c_slots_Slots_TakeRun_L2)))
 (.seq (.region [Mv 62 6, Mv 4 62, I 5 .mv [Tt]])
 (.ret)))))
 (.region [Mv 31 6, Bi 32 .add (T 31) (N 1), Mv 6 32]))
def c_slots_Slots_TakeRun : AFn := ⟨63, [.tmp 4, .tmp 5], .seq (.region [Mn 4 0, I 5 .mv [Tf]])
 (.seq (.seq (.region [Mv 9 0, I 10 (.eqv false .ptr) [T 9, .lit .nilptr], Mv 11 10, Mw 12 1 11 false, IG 13 (.bin .lss) [T 12, N 1] 11 false, I 14 .pick [T 11, Tt, T 13], Mv 15 14, Mw 16 1 15 false, Mw 17 0 15 false, IG 18 .nilCheck [T 17] 15 false, IG 19 (.fieldAddr 0) [T 18] 15 false, IG 20 .load1 [T 19] 15 false, IG 21 (.bin .gtr) [T 16, T 20] 15 false, I 22 .pick [T 15, Tt, T 21]])
 (.cond (T 22)
 (.seq (.region [Mn 4 0, I 5 .mv [Tf]])
 (.ret))
 (.skip)))
 (.seq (.skip)
 (.seq (.seq (.region [Mn 6 0])
 (.block 0 (.loop c_slots_Slots_TakeRun_L0)))
 (.seq (.region [Mn 4 0, I 5 .mv [Tf]])
 (.ret)))))⟩
abbrev n_swap_plan_fails : Nat := 294
def c_swap_plan_fails : AFn := ⟨27, [.tmp 2], .seq (.region [I 2 .mv [Tf]])
 (.seq (.region [Mv 3 0, Nc 4 3, Fa 5 0 4, Ld 6 5, Bi 7 .add (T 6) (N 1), Nc 8 3, Fa 9 0 8, J (.store 1) [T 9, T 7]])
 (.seq (.seq (.region [Mv 10 0, Nc 11 10, Fa 12 1 11, Ld 13 12, Bi 14 .eql (T 13) (N 0)])
 (.cond (T 14)
 (.seq (.region [I 2 .mv [Tf]])
 (.ret))
 (.skip)))
 (.seq (.region [Mv 15 0, Nc 16 15, Fa 17 1 16, Ld 18 17, Bi 19 .sub (T 18) (N 1), Nc 20 15, Fa 21 1 20, J (.store 1) [T 21, T 19]])
 (.seq (.region [Mv 22 0, Nc 23 22, Fa 24 1 23, Ld 25 24, Bi 26 .eql (T 25) (N 0), Mv 2 26])
 (.ret)))))⟩
abbrev n_slots_put : Nat := 295
def c_slots_put : AFn := ⟨14, [], .draw [[⟨0, Mv 4 0, [], false⟩, ⟨1, Mv 5 1, [], false⟩, ⟨2, Bi 6 .quo (T 5) (N 64), [], false⟩, ⟨3, I 7 (.indexs 1) [T 4, T 6], [], false⟩, ⟨4, Ld 8 7, [], false⟩, ⟨5, Mv 9 1, [], false⟩, ⟨6, Bi 10 .rem (T 9) (N 64), [], false⟩, ⟨7, I 11 (.bin .shl) [.lit (.int .u64 1), T 10], [], false⟩, ⟨8, Bi 12 .or (T 8) (T 11), [], false⟩, ⟨9, I 13 (.indexs 1) [T 4, T 6], [], false⟩, ⟨10, J (.store 1) [T 13, T 12], [], false⟩]]⟩
abbrev n_anon_free_push : Nat := 296
def c_anon_free_push_L0 : ACode :=
 .seq (.seq (.draw [[⟨0, Mv 15 5, [], false⟩, ⟨1, Bi 16 .gtr (T 15) (N 0), [], false⟩, ⟨2, Mv 17 16, [], false⟩, ⟨3, Mw 18 4 17 true, [], false⟩, ⟨4, Mw 19 5 17 true, [], false⟩, ⟨5, IG 20 (.bin .sub) [T 19, N 1] 17 true, [], false⟩, ⟨6, IG 21 (.bin .quo) [T 20, N 2] 17 true, [], false⟩, ⟨7, IG 22 (.indexs 1) [T 18, T 21] 17 true, [], false⟩, ⟨8, IG 23 .load1 [T 22] 17 true, [], false⟩, ⟨9, Mw 24 4 17 true, [], false⟩, ⟨10, Mw 25 5 17 true, [], false⟩, ⟨11, IG 26 (.indexs 1) [T 24, T 25] 17 true, [], false⟩, ⟨12, IG 27 .load1 [T 26] 17 true, [], false⟩, ⟨13, IG 28 (.bin .gtr) [T 23, T 27] 17 true, [], false⟩, ⟨14, I 29 .pick [T 17, T 28, Tf], [], false⟩]])
 (.cond (T 29)
 (.skip)
 (.exit 0)))
 (.seq (.block 1 (.draw [[⟨0, Mv 33 4, [], false⟩, ⟨1, Mv 34 5, [], false⟩, ⟨2, Mv 35 4, [], false⟩, ⟨3, Mv 36 5, [], false⟩, ⟨4, Bi 37 .sub (T 36) (N 1), [], false⟩, ⟨5, Bi 38 .quo (T 37) (N 2), [], false⟩, ⟨6, Mv 39 4, [], false⟩, ⟨7, Mv 40 5, [], false⟩, ⟨8, Bi 41 .sub (T 40) (N 1), [], false⟩, ⟨9, Bi 42 .quo (T 41) (N 2), [], false⟩, ⟨10, I 43 (.indexs 1) [T 39, T 42], [], false⟩, ⟨11, Ld 44 43, [], false⟩, ⟨12, Mv 45 4, [], false⟩, ⟨13, Mv 46 5, [], false⟩, ⟨14, I 47 (.indexs 1) [T 45, T 46], [], false⟩, ⟨15, Ld 48 47, [], false⟩, ⟨16, I 49 (.indexs 1) [T 33, T 34], [], false⟩, ⟨17, J (.store 1) [T 49, T 44], [], false⟩, ⟨18, I 50 (.indexs 1) [T 35, T 38], [], false⟩, ⟨19, J (.store 1) [T 50, T 48], [], false⟩]]))
 (.region [Mv 30 5, Bi 31 .sub (T 30) (N 1), Bi 32 .quo (T 31) (N 2), Mv 5 32]))
def c_anon_free_push : AFn := ⟨54, [], .seq (.region [Mv 6 0, Nc 7 6, Ld 8 7, Mv 9 1, I 10 (.bslice 3 1 1 (.vals [Zi]) [0]) [T 9], I 11 (.append 3 1 8 (.vals [Zi])) [T 8, T 10], Mv 4 11])
 (.seq (.seq (.region [Mv 12 4, I 13 .lens [T 12], Bi 14 .sub (T 13) (N 1), Mv 5 14])
 (.block 0 (.loop c_anon_free_push_L0)))
 (.region [Mv 51 0, Mv 52 4, Nc 53 51, J (.store 1) [T 53, T 52]]))⟩
abbrev n_slices_insertionSortOrdered_int : Nat := 297
def c_slices_insertionSortOrdered_int_L1 : ACode :=
 .seq (.seq (.draw [[⟨0, Mv 16 7, [], false⟩, ⟨1, Mv 17 1, [], false⟩, ⟨2, Bi 18 .gtr (T 16) (T 17), [], false⟩, ⟨3, Mv 19 18, [], false⟩, ⟨4, Mw 20 0 19 true, [], false⟩, ⟨5, Mw 21 7 19 true, [], false⟩, ⟨6, IG 22 (.indexs 1) [T 20, T 21] 19 true, [], false⟩, ⟨7, IG 23 .load1 [T 22] 19 true, [], false⟩, ⟨8, Mw 24 0 19 true, [], false⟩, ⟨9, Mw 25 7 19 true, [], false⟩, ⟨10, IG 26 (.bin .sub) [T 25, N 1] 19 true, [], false⟩, ⟨11, IG 27 (.indexs 1) [T 24, T 26] 19 true, [], false⟩, ⟨12, IG 28 .load1 [T 27] 19 true, [], false⟩, ⟨13, IG 29 .callv [F 303, T 23, T 28] 19 true, [], false⟩, ⟨14, I 30 .pick [T 19, T 29, Tf], [], false⟩]])
 (.cond (T 30)
 (.skip)
 (.exit 2)))
 (.seq (.block 3 (.draw [[⟨0, Mv 33 0, [], false⟩, ⟨1, Mv 34 7, [], false⟩, ⟨2, Mv 35 0, [], false⟩, ⟨3, Mv 36 7, [], false⟩, ⟨4, Bi 37 .sub (T 36) (N 1), [], false⟩, ⟨5, Mv 38 0, [], false⟩, ⟨6, Mv 39 7, [], false⟩, ⟨7, Bi 40 .sub (T 39) (N 1), [], false⟩, ⟨8, I 41 (.indexs 1) [T 38, T 40], [], false⟩, ⟨9, Ld 42 41, [], false⟩, ⟨10, Mv 43 0, [], false⟩, ⟨11, Mv 44 7, [], false⟩, ⟨12, I 45 (.indexs 1) [T 43, T 44], [], false⟩, ⟨13, Ld 46 45, [], false⟩, ⟨14, I 47 (.indexs 1) [T 33, T 34], [], false⟩, ⟨15, J (.store 1) [T 47, T 42], [], false⟩, ⟨16, I 48 (.indexs 1) [T 35, T 37], [], false⟩, ⟨17, J (.store 1) [T 48, T 46], [], false⟩]]))
 (.region [Mv 31 7, Bi 32 .sub (T 31) (N 1), Mv 7 32]))
def c_slices_insertionSortOrdered_int_L0 : ACode :=
 .seq (.seq (.region [Mv 10 6, Mv 11 2, Bi 12 .lss (T 10) (T 11)])
 (.cond (T 12)
 (.skip)
 (.exit 0)))
 (.seq (.block 1 (.seq (.region [Mv 15 6, Mv 7 15])
 (.block 2 (.loop c_slices_insertionSortOrdered_int_L1))))
 (.region [Mv 13 6, Bi 14 .add (T 13) (N 1), Mv 6 14]))
def c_slices_insertionSortOrdered_int : AFn := ⟨49, [], .seq (.region [Mv 8 1, Bi 9 .add (T 8) (N 1), Mv 6 9])
 (.block 0 (.loop c_slices_insertionSortOrdered_int_L0))⟩
abbrev n_math_bits_Len64 : Nat := 307
def c_math_bits_Len64 : AFn := ⟨25, [.tmp 2], .seq (.region [Mn 2 0])
 (.seq (.seq (.region [Mv 3 0, I 4 (.bin .geq) [T 3, .lit (.int .u64 4294967296)]])
 (.cond (T 4)
 (.seq (.region [Mv 5 0, I 6 (.bin .shr) [T 5, .lit (.int .u64 32)], Mv 0 6])
 (.region [Mn 2 32]))
 (.skip)))
 (.seq (.seq (.region [Mv 7 0, I 8 (.bin .geq) [T 7, .lit (.int .u64 65536)]])
 (.cond (T 8)
 (.seq (.region [Mv 9 0, I 10 (.bin .shr) [T 9, .lit (.int .u64 16)], Mv 0 10])
 (.region [Mv 11 2, Bi 12 .add (T 11) (N 16), Mv 2 12]))
 (.skip)))
 (.seq (.seq (.region [Mv 13 0, I 14 (.bin .geq) [T 13, .lit (.int .u64 256)]])
 (.cond (T 14)
 (.seq (.region [Mv 15 0, I 16 (.bin .shr) [T 15, .lit (.int .u64 8)], Mv 0 16])
 (.region [Mv 17 2, Bi 18 .add (T 17) (N 8), Mv 2 18]))
 (.skip)))
 (.seq (.region [Mv 19 2, Mv 20 0, I 21 (.conv .u8) [T 20], I 22 (.indexstr) [.lit (.str ⟨#[0, 1, 2, 2, 3, 3, 3, 3, 4, 4, 4, 4, 4, 4, 4, 4, 5, 5, 5, 5, 5, 5, 5, 5, 5, 5, 5, 5, 5, 5, 5, 5, 6, 6, 6, 6, 6, 6, 6, 6, 6, 6, 6, 6, 6, 6, 6, 6, 6, 6, 6, 6, 6, 6, 6, 6, 6, 6, 6, 6, 6, 6, 6, 6, 7, 7, 7, 7, 7, 7, 7, 7, 7, 7, 7, 7, 7, 7, 7, 7, 7, 7, 7, 7, 7, 7, 7, 7, 7, 7, 7, 7, 7, 7, 7, 7, 7, 7, 7, 7, 7, 7, 7, 7, 7, 7, 7, 7, 7, 7, 7, 7, 7, 7, 7, 7, 7, 7, 7, 7, 7, 7, 7, 7, 7, 7, 7, 7, 8, 8, 8, 8, 8, 8, 8, 8, 8, 8, 8, 8, 8, 8, 8, 8, 8, 8, 8, 8, 8, 8, 8, 8, 8, 8, 8, 8, 8, 8, 8, 8, 8, 8, 8, 8, 8, 8, 8, 8, 8, 8, 8, 8, 8, 8, 8, 8, 8, 8, 8, 8, 8, 8, 8, 8, 8, 8, 8, 8, 8, 8, 8, 8, 8, 8, 8, 8, 8, 8, 8, 8, 8, 8, 8, 8, 8, 8, 8, 8, 8, 8, 8, 8, 8, 8, 8, 8, 8, 8, 8, 8, 8, 8, 8, 8, 8, 8, 8, 8, 8, 8, 8, 8, 8, 8, 8, 8, 8, 8, 8, 8, 8, 8, 8, 8, 8, 8, 8, 8, 8, 8, 8, 8, 8, 8, 8, 8]⟩), T 21], I 23 (.conv .i64) [T 22], Bi 24 .add (T 19) (T 23), Mv 2 24])
 (.ret)))))⟩
abbrev n_swap_Device_made : Nat := 308
def c_swap_Device_made : AFn := ⟨11, [.tmp 2], .seq (.region [I 2 .mv [Tf]])
 (.seq (.region [Mv 3 0, I 4 (.eqv true .ptr) [T 3, .lit .nilptr], Mv 5 4, Mw 6 0 5 true, IG 7 .nilCheck [T 6] 5 true, IG 8 (.fieldAddr 1) [T 7] 5 true, IG 9 .load1 [T 8] 5 true, I 10 .pick [T 5, T 9, Tf], Mv 2 10])
 (.ret))⟩
abbrev n_slices_Clone_int_int : Nat := 311
def c_slices_Clone_int_int : AFn := ⟨8, [.tmp 2], .seq (.region [I 2 .mv [.lit .nilsl]])
 (.seq (.seq (.region [Mv 3 0, I 4 (.eqv false .slice) [T 3, .lit .nilsl]])
 (.cond (T 4)
 (.seq (.region [I 2 .mv [.lit .nilsl]])
 (.ret))
 (.skip)))
 (.seq (.region [I 5 (.bslice 3 1 0 (.vals [Zi]) []) [], Mv 6 0, I 7 (.append 3 1 8 (.vals [Zi])) [T 5, T 6], Mv 2 7])
 (.ret)))⟩
abbrev n_maps_Keys_map_int_kern_proc_int_kern_proc_1 : Nat := 312
def c_maps_Keys_map_int_kern_proc_int_kern_proc_1_L0 : ACode :=
 .seq (.region [I 6 (.next) [T 5], Xt 7 0 6])
 (.seq (.cond (T 7)
 (.skip)
 (.exit 0))
 (.block 1 (.seq (.region [I 8 (.entry) [T 5], Xt 9 0 8, Mv 3 9])
 (.seq (.region [Mv 10 0, Mv 11 3, Kc 12 [T 10, T 11], I 13 (.un .not) [T 12]])
 (.cond (T 13)
 (.ret)
 (.skip))))))
def c_maps_Keys_map_int_kern_proc_int_kern_proc_1 : AFn := ⟨14, [], .seq (.region [Ld 4 1, I 5 (.range) [T 4]])
 (.block 0 (.loop c_maps_Keys_map_int_kern_proc_int_kern_proc_1_L0))⟩
abbrev n_walk_Leaves_1 : Nat := 313
def c_walk_Leaves_1 : AFn := ⟨17, [], .seq (.region [I 3 (.box 292 1) [T 0]])
 (.seq (.region [I 4 (.alloc 351 1 (.vals [.nilfunc])) []])
 (.seq (.region [I 5 (.mkfunc 314 0) [T 1, T 3, T 4], J (.store 1) [T 4, T 5]])
 (.seq (.draw [[⟨0, Ld 6 2, [], false⟩, ⟨1, Bi 7 .geq (T 6) (N 0), [], false⟩, ⟨2, Mv 8 7, [], false⟩, ⟨3, IG 9 .load1 [T 2] 8 true, [], false⟩, ⟨4, IG 10 .load1 [T 1] 8 true, [], false⟩, ⟨5, IG 11 .callv [F 44, T 10] 8 true, [(3, IG 9 .load1 [T 2] 8 true)], false⟩, ⟨6, IG 12 (.bin .lss) [T 9, T 11] 8 true, [], false⟩, ⟨7, I 13 .pick [T 8, T 12, Tf], [], false⟩]])
 (.cond (T 13)
 (.region [Ld 14 4, Ld 15 2, Kc 16 [T 14, T 15, N 2, N 0]])
 (.skip)))))⟩
abbrev n_walk_Leaves_1_1 : Nat := 314
def c_walk_Leaves_1_1_L0 : ACode :=
 .seq (.region [Bi 16 .lss (T 15) (N 512)])
 (.seq (.cond (T 16)
 (.skip)
 (.exit 0))
 (.seq (.block 1 (.seq (.region [Mv 17 15, Mv 10 17])
 (.seq (.region [Mv 18 2, Bi 19 .mul (T 18) (N 512), Mv 20 10, Bi 21 .add (T 19) (T 20), Mv 11 21])
 (.seq (.seq (.region [Mv 22 1, Bi 23 .eql (T 22) (N 0)])
 (.cond (T 23)
 (.seq (.seq (.region [Ld 24 3, Mv 25 0, Mv 26 10, Kc 27 [F 315, T 24, T 25, T 26], I 12 (.alloc 204 2 (.vals [Zi, Zi])) [], J (.store 2) [T 12, T 27]])
 (.seq (.region [I 28 (.loadn 2) [T 12], Kc 29 [F 275, T 28], Bi 30 .eql (T 29) (N 2), Mv 31 30, IG 32 .load1 [T 4] 31 true, Mw 33 11 31 true, IG 34 (.loadn 2) [T 12] 31 true, IG 35 .callv [T 32, T 33, T 34] 31 true, IG 36 (.un .not) [T 35] 31 true, I 37 .pick [T 31, T 36, Tf]])
 (.cond (T 37)
 (.seq (.region [I 9 .mv [Tf]])
 (.ret))
 (.skip))))
 (.exit 1))
 (.skip)))
 (.seq (.region [Ld 39 3, Mv 40 0, Mv 41 10, Kc 42 [F 316, T 39, T 40, T 41], Mv 38 42, Xt 43 0 38, Xt 44 1 38, Mv 13 43, Mv 14 44])
 (.seq (.region [Mv 45 14, Mv 46 45, IG 47 .load1 [T 5] 46 true, Mw 48 13 46 true, Mw 49 1 46 true, IG 50 (.bin .sub) [T 49, N 1] 46 true, Mw 51 11 46 true, IG 52 .callv [T 47, T 48, T 50, T 51] 46 true, IG 53 (.un .not) [T 52] 46 true, I 54 .pick [T 46, T 53, Tf]])
 (.cond (T 54)
 (.seq (.region [I 9 .mv [Tf]])
 (.ret))
 (.skip))))))))
 (.region [Bi 55 .add (T 15) (N 1), Mv 15 55])))
def c_walk_Leaves_1_1 : AFn := ⟨56, [.tmp 9], .seq (.region [I 9 .mv [Tf]])
 (.seq (.seq (.region [Mn 15 0])
 (.block 0 (.loop c_walk_Leaves_1_1_L0)))
 (.seq (.region [I 9 .mv [Tt]])
 (.ret)))⟩
abbrev n_walk_read : Nat := 315
def c_walk_read : AFn := ⟨18, [.cell 6 (.loadn 2)], .seq (.region [I 6 (.alloc 204 2 (.vals [Zi, Zi])) []])
 (.seq (.region [Mv 10 0, Mv 11 1, Mv 12 2, Kc 13 [F 273, T 10, T 11, T 12], Mv 9 13, Xt 14 0 9, Xt 15 1 9, Mv 7 14, Mv 8 15])
 (.seq (.region [Mv 16 7, Kc 17 [F 274, T 16], J (.store 2) [T 6, T 17]])
 (.ret)))⟩
abbrev n_walk_below : Nat := 316
def c_walk_below : AFn := ⟨25, [.tmp 6, .tmp 7], .seq (.region [Mn 6 0, I 7 .mv [Tf]])
 (.seq (.region [Mv 9 0, Mv 10 1, Mv 11 2, Kc 12 [F 315, T 9, T 10, T 11], I 8 (.alloc 204 2 (.vals [Zi, Zi])) [], J (.store 2) [T 8, T 12]])
 (.seq (.draw [[⟨0, Fa 13 1 8, [], false⟩, ⟨1, Ld 14 13, [], false⟩, ⟨2, I 15 (.loadn 2) [T 8], [], false⟩, ⟨3, Kc 16 [F 275, T 15], [(1, Ld 14 13)], false⟩, ⟨4, Bi 17 .eql (T 16) (N 1), [], false⟩, ⟨5, Mv 18 17, [], false⟩, ⟨6, IG 19 (.fieldAddr 1) [T 8] 18 true, [], false⟩, ⟨7, IG 20 .load1 [T 19] 18 true, [], false⟩, ⟨8, Mw 21 0 18 true, [], false⟩, ⟨9, IG 22 .callv [F 44, T 21] 18 true, [(1, Ld 14 13), (7, IG 20 .load1 [T 19] 18 true)], false⟩, ⟨10, IG 23 (.bin .lss) [T 20, T 22] 18 true, [], false⟩, ⟨11, I 24 .pick [T 18, T 23, Tf], [], false⟩, ⟨12, Mv 6 14, [], false⟩, ⟨13, Mv 7 24, [], false⟩]])
 (.ret)))⟩
abbrev n_pmap_Map_Find : Nat := 317
def c_pmap_Map_Find : AFn := ⟨34, [.cell 4 (.loadn 2), .tmp 5], .seq (.region [I 4 (.alloc 204 2 (.vals [Zi, Zi])) [], I 5 .mv [Tf]])
 (.seq (.seq (.region [Mv 8 0, Kc 9 [F 178, T 8], I 10 (.un .not) [T 9]])
 (.cond (T 10)
 (.seq (.region [I 11 (.build (.agg [Zi, Zi]) []) [], J (.store 2) [T 4, T 11], I 5 .mv [Tf]])
 (.ret))
 (.skip)))
 (.seq (.draw [[⟨0, Mv 13 0, [], false⟩, ⟨1, Nc 14 13, [], false⟩, ⟨2, Fa 15 0 14, [], false⟩, ⟨3, Ld 16 15, [], false⟩, ⟨4, Mv 17 0, [], false⟩, ⟨5, Nc 18 17, [], false⟩, ⟨6, Fa 19 3 18, [], false⟩, ⟨7, Ld 20 19, [], false⟩, ⟨8, Mv 21 1, [], false⟩, ⟨9, Kc 22 [F 261, T 16, T 20, T 21], [], false⟩, ⟨10, Mv 12 22, [], false⟩, ⟨11, Xt 23 0 12, [], false⟩, ⟨12, Xt 24 1 12, [], false⟩, ⟨13, I 6 (.alloc 204 2 (.vals [Zi, Zi])) [], [(3, Ld 16 15), (7, Ld 20 19)], false⟩, ⟨14, J (.store 2) [T 6, T 23], [], false⟩, ⟨15, Mv 7 24, [], false⟩]])
 (.seq (.seq (.region [Mv 25 7, I 26 (.un .not) [T 25], Mv 27 26, IG 28 (.loadn 2) [T 6] 27 false, IG 29 .callv [F 275, T 28] 27 false, IG 30 (.bin .neq) [T 29, N 2] 27 false, I 31 .pick [T 27, Tt, T 30]])
 (.cond (T 31)
 (.seq (.region [I 32 (.build (.agg [Zi, Zi]) []) [], J (.store 2) [T 4, T 32], I 5 .mv [Tf]])
 (.ret))
 (.skip)))
 (.seq (.region [I 33 (.loadn 2) [T 6], J (.store 2) [T 4, T 33], I 5 .mv [Tt]])
 (.ret)))))⟩
abbrev n_walk_Place : Nat := 318
def c_walk_Place_L0 : ACode :=
 .seq (.block 1 (.seq (.seq (.region [Mv 32 10, Bi 33 .eql (T 32) (N 0)])
 (.cond (T 33)
 (.exit 0)
 (.skip)))
 (.seq (.region [Mv 35 0, Mv 36 9, Mv 37 2, Mv 38 10, Kc 39 [F 334, T 37, T 38], Kc 40 [F 316, T 35, T 36, T 39], Mv 34 40, Xt 41 0 34, Xt 42 1 34, Mv 11 41, Mv 12 42])
 (.seq (.seq (.region [Mv 43 12, I 44 (.un .not) [T 43]])
 (.cond (T 44)
 (.seq (.region [Mn 6 0, Mn 7 0, I 8 .mv [Tf]])
 (.ret))
 (.skip)))
 (.region [Mv 45 11, Mv 9 45])))))
 (.region [Mv 30 10, Bi 31 .sub (T 30) (N 1), Mv 10 31])
def c_walk_Place : AFn := ⟨49, [.tmp 6, .tmp 7, .tmp 8], .seq (.region [Mn 6 0, Mn 7 0, I 8 .mv [Tf]])
 (.seq (.seq (.region [Mv 13 1, Bi 14 .lss (T 13) (N 0), Mv 15 14, Mw 16 1 15 false, Mw 17 0 15 false, IG 18 .callv [F 44, T 17] 15 false, IG 19 (.bin .geq) [T 16, T 18] 15 false, I 20 .pick [T 15, Tt, T 19], Mv 21 20, Mw 22 2 21 false, IG 23 (.bin .lss) [T 22, N 0] 21 false, I 24 .pick [T 21, Tt, T 23], Mv 25 24, Mw 26 2 25 false, IG 27 (.bin .geq) [T 26, N 134217728] 25 false, I 28 .pick [T 25, Tt, T 27]])
 (.cond (T 28)
 (.seq (.region [Mn 6 0, Mn 7 0, I 8 .mv [Tf]])
 (.ret))
 (.skip)))
 (.seq (.region [Mv 29 1, Mv 9 29])
 (.seq (.skip)
 (.seq (.seq (.region [Mn 10 2])
 (.block 0 (.loop c_walk_Place_L0)))
 (.seq (.region [Mv 46 9, Mv 47 2, Kc 48 [F 334, T 47, N 0], Mv 6 46, Mv 7 48, I 8 .mv [Tt]])
 (.ret))))))⟩
abbrev n_pte_Encode : Nat := 319
def c_pte_Encode : AFn := ⟨13, [.tmp 2], .seq (.region [I 1 (.box 204 2) [T 0], I 2 .mv [.lit (.int .u64 0)]])
 (.seq (.draw [[⟨0, Fa 3 1 1, [], false⟩, ⟨1, Ld 4 3, [], false⟩, ⟨2, I 5 (.conv .u64) [T 4], [], false⟩, ⟨5, Fa 8 0 1, [], false⟩, ⟨6, Ld 9 8, [], false⟩, ⟨7, I 10 (.conv .u64) [T 9], [], false⟩, ⟨3, Kc 6 [F 341, T 5, N 44], [(6, Ld 9 8)], false⟩, ⟨4, I 7 (.bin .shl) [T 6, .lit (.int .u64 10)], [], false⟩, ⟨8, Kc 11 [F 341, T 10, N 8], [], false⟩, ⟨9, Bi 12 .or (T 7) (T 11), [], false⟩, ⟨10, Mv 2 12, [], false⟩]])
 (.ret))⟩
abbrev n_pmap_Map_tidy : Nat := 320
def c_pmap_Map_tidy : AFn := ⟨53, [], .seq (.region [Mv 10 1, Kc 11 [F 334, T 10, N 2], Mv 12 1, Kc 13 [F 334, T 12, N 1], Mv 4 11, Mv 5 13])
 (.seq (.region [Mv 15 0, Mv 16 0, Nc 17 16, Fa 18 3 17, Ld 19 18, Mv 20 4, Kc 21 [F 179, T 15, T 19, T 20], Mv 14 21, Xt 22 0 14, Xt 23 1 14, Mv 6 22, Mv 7 23])
 (.seq (.seq (.region [Mv 24 7, I 25 (.un .not) [T 24]])
 (.cond (T 25)
 (.ret)
 (.skip)))
 (.seq (.seq (.region [Mv 27 0, Mv 28 6, Mv 29 5, Kc 30 [F 179, T 27, T 28, T 29], Mv 26 30, Xt 31 0 26, Xt 32 1 26, Mv 8 31, Mv 9 32])
 (.seq (.region [Mv 33 9, Mv 34 33, Mw 35 0 34 true, Mw 36 8 34 true, IG 37 .callv [F 355, T 35, T 36] 34 true, I 38 .pick [T 34, T 37, Tf]])
 (.cond (T 38)
 (.region [Mv 39 0, Mv 40 6, Mv 41 5, Kc 42 [F 180, T 39, T 40, T 41]])
 (.skip))))
 (.seq (.region [Mv 43 0, Mv 44 6, Kc 45 [F 355, T 43, T 44]])
 (.cond (T 45)
 (.region [Mv 46 0, Mv 47 0, Nc 48 47, Fa 49 3 48, Ld 50 49, Mv 51 4, Kc 52 [F 180, T 46, T 50, T 51]])
 (.skip))))))⟩
abbrev n_maps_Keys_map_int_object_one_int_object_one_1 : Nat := 322
def c_maps_Keys_map_int_object_one_int_object_one_1_L0 : ACode :=
 .seq (.region [I 6 (.next) [T 5], Xt 7 0 6])
 (.seq (.cond (T 7)
 (.skip)
 (.exit 0))
 (.block 1 (.seq (.region [I 8 (.entry) [T 5], Xt 9 0 8, Mv 3 9])
 (.seq (.region [Mv 10 0, Mv 11 3, Kc 12 [T 10, T 11], I 13 (.un .not) [T 12]])
 (.cond (T 13)
 (.ret)
 (.skip))))))
def c_maps_Keys_map_int_object_one_int_object_one_1 : AFn := ⟨14, [], .seq (.region [Ld 4 1, I 5 (.range) [T 4]])
 (.block 0 (.loop c_maps_Keys_map_int_object_one_int_object_one_1_L0))⟩
abbrev n_slots_has : Nat := 324
def c_slots_has : AFn := ⟨15, [.tmp 4], .seq (.region [I 4 .mv [Tf]])
 (.seq (.region [Mv 5 0, Mv 6 1, Bi 7 .quo (T 6) (N 64), I 8 (.indexs 1) [T 5, T 7], Ld 9 8, Mv 10 1, Bi 11 .rem (T 10) (N 64), Bi 12 .shr (T 9) (T 11), I 13 (.bin .and) [T 12, .lit (.int .u64 1)], I 14 (.bin .gtr) [T 13, .lit (.int .u64 0)], Mv 4 14])
 (.ret))⟩
abbrev n_slices_IndexFunc_api_Entry_api_Entry : Nat := 325
def c_slices_IndexFunc_api_Entry_api_Entry_L0 : ACode :=
 .seq (.region [Bi 9 .lss (T 8) (T 7)])
 (.seq (.cond (T 9)
 (.skip)
 (.exit 0))
 (.seq (.block 1 (.seq (.region [Mv 10 8, Mv 5 10])
 (.seq (.region [Mv 11 1, Mv 12 0, Mv 13 5, I 14 (.indexs 10) [T 12, T 13], I 15 (.loadn 10) [T 14], Kc 16 [T 11, T 15]])
 (.cond (T 16)
 (.seq (.region [Mv 17 5, Mv 4 17])
 (.ret))
 (.skip)))))
 (.region [Bi 18 .add (T 8) (N 1), Mv 8 18])))
def c_slices_IndexFunc_api_Entry_api_Entry : AFn := ⟨19, [.tmp 4], .seq (.region [Mn 4 0])
 (.seq (.seq (.region [Mv 6 0, I 7 .lens [T 6], Mn 8 0])
 (.block 0 (.loop c_slices_IndexFunc_api_Entry_api_Entry_L0)))
 (.seq (.region [Mn 4 (-1)])
 (.ret)))⟩
abbrev n_pte_Canonical : Nat := 328
def c_pte_Canonical : AFn := ⟨12, [.tmp 2], .seq (.region [I 2 .mv [Tf]])
 (.seq (.region [Mv 4 0, I 5 (.bin .shr) [T 4, .lit (.int .u64 38)], Mv 3 5])
 (.seq (.region [Mv 6 3, Bi 7 .eql (T 6) (N 0), Mv 8 7, Mw 9 3 8 false, IG 10 (.bin .eql) [T 9, N (-1)] 8 false, I 11 .pick [T 8, Tt, T 10], Mv 2 11])
 (.ret)))⟩
abbrev n_pte_Split : Nat := 329
def c_pte_Split : AFn := ⟨14, [.tmp 2, .tmp 3], .seq (.region [Mn 2 0, Mn 3 0])
 (.seq (.region [Mv 5 0, I 6 (.conv .u64) [T 5], Mv 4 6])
 (.seq (.region [Mv 7 4, I 8 (.bin .shr) [T 7, .lit (.int .u64 12)], Kc 9 [F 341, T 8, N 27], I 10 (.conv .i64) [T 9], Mv 11 4, Kc 12 [F 341, T 11, N 12], I 13 (.conv .i64) [T 12], Mv 2 10, Mv 3 13])
 (.ret)))⟩
abbrev n_tlb_Table_Put_1 : Nat := 330
def c_tlb_Table_Put_1 : AFn := ⟨12, [.tmp 3], .seq (.region [I 2 (.box 207 2) [T 0], I 3 .mv [Tf]])
 (.seq (.draw [[⟨0, I 4 (.loadn 2) [T 2], [], false⟩, ⟨1, Ld 5 1, [], false⟩, ⟨2, Nc 6 5, [], false⟩, ⟨3, Fa 7 1 6, [], false⟩, ⟨4, Ld 8 7, [], false⟩, ⟨5, I 9 (.indexs 2) [T 8, N 0], [], false⟩, ⟨6, I 10 (.loadn 2) [T 9], [], false⟩, ⟨7, I 11 (.eqv false (.flat [.int, .int])) [T 4, T 10], [], false⟩, ⟨8, Mv 3 11, [], false⟩]])
 (.ret))⟩
abbrev n_kern_Kernel_stored : Nat := 331
def c_kern_Kernel_stored : AFn := ⟨101, [.tmp 6, .tmp 7], .seq (.region [Mn 6 0, Mn 7 0])
 (.seq (.seq (.region [Mv 20 0, Mv 21 1, Mv 22 2, Kc 23 [F 174, T 20, T 21, T 22], Mv 19 23, Xt 24 0 19, Xt 25 1 19, Mv 8 24, Mv 9 25])
 (.seq (.region [Mv 26 9, Bi 27 .neq (T 26) (N 0)])
 (.cond (T 27)
 (.seq (.region [Mv 28 9, Mn 6 (-1), Mv 7 28])
 (.ret))
 (.skip))))
 (.seq (.region [Mv 29 0, Mv 30 1, Mv 31 2, Kc 32 [F 57, T 29, T 30, T 31], Mv 10 32])
 (.seq (.region [Mv 34 0, Mv 35 10, Kc 36 [F 332, T 34, T 35], Mv 33 36, Xt 37 0 33, Xt 38 1 33, Mv 11 37, Mv 12 38])
 (.seq (.seq (.region [Mv 39 12, Bi 40 .neq (T 39) (N 0)])
 (.cond (T 40)
 (.seq (.region [Mv 41 12, Mn 6 (-1), Mv 7 41])
 (.ret))
 (.skip)))
 (.seq (.region [Mv 43 0, Nc 44 43, Fa 45 5 44, Ld 46 45, Mv 47 10, Kc 48 [F 56, T 46, T 47], Mv 42 48, Xt 49 0 42, Xt 50 1 42, I 13 (.alloc 103 3 (.vals [Zi, Zi, Zi])) [], J (.store 3) [T 13, T 49], Mv 14 50])
 (.seq (.seq (.region [Fa 51 0 13, Ld 52 51, Bi 53 .gtr (T 52) (N 1)])
 (.cond (T 53)
 (.seq (.region [Mv 54 0, Mv 55 1, Mv 56 2, Mv 57 11, Kc 58 [F 333, T 54, T 55, T 56, T 57], Xt 59 0 58, Xt 60 1 58, Mv 6 59, Mv 7 60])
 (.ret))
 (.skip)))
 (.seq (.seq (.region [Mv 62 0, Nc 63 62, Fa 64 1 63, Ld 65 64, Mv 66 11, Kc 67 [F 45, T 65, T 66], Mv 61 67, Xt 68 0 61, Xt 69 1 61, I 15 (.alloc 80 5 (.vals [Zi, Zi, Zi, Zi, Zi])) [], J (.store 5) [T 15, T 68], Mv 16 69])
 (.seq (.region [Fa 70 4 15, Ld 71 70, Bi 72 .gtr (T 71) (N 0)])
 (.cond (T 72)
 (.seq (.region [Mv 74 0, Mv 75 10, Kc 76 [F 156, T 74, N 2, T 75, N 0], Mv 73 76, Xt 77 0 73, Xt 78 1 73, Mv 17 77, Mv 18 78])
 (.seq (.seq (.region [Mv 79 18, Bi 80 .neq (T 79) (N 0)])
 (.cond (T 80)
 (.seq (.region [Mv 81 18, Mn 6 (-1), Mv 7 81])
 (.ret))
 (.skip)))
 (.seq (.region [Mv 82 0, Nc 83 82, Fa 84 0 83, Ld 85 84, Mv 86 17, Mv 87 11, Kc 88 [F 160, T 85, T 86, T 87]])
 (.seq (.region [Mv 89 0, Mv 90 11, Kc 91 [F 109, T 89, T 90]])
 (.seq (.region [Mv 92 0, Nc 93 92, Fa 94 5 93, Ld 95 94, Mv 96 10, Mv 97 17, Kc 98 [F 113, T 95, T 96, T 97, N (-1)]])
 (.region [Mv 99 17, Mv 11 99]))))))
 (.skip))))
 (.seq (.region [Mv 100 11, Mv 6 100, Mn 7 0])
 (.ret)))))))))⟩
abbrev n_kern_Kernel_back : Nat := 332
def c_kern_Kernel_back : AFn := ⟨43, [.tmp 4, .tmp 5], .seq (.region [Mn 4 0, Mn 5 0])
 (.seq (.region [Mv 11 0, Nc 12 11, Fa 13 5 12, Ld 14 13, Mv 15 1, Kc 16 [F 56, T 14, T 15], Mv 10 16, Xt 17 0 10, Xt 18 1 10, I 6 (.alloc 103 3 (.vals [Zi, Zi, Zi])) [], J (.store 3) [T 6, T 17], Mv 7 18])
 (.seq (.seq (.region [Fa 19 1 6, Ld 20 19, Bi 21 .geq (T 20) (N 0)])
 (.cond (T 21)
 (.seq (.region [Fa 22 1 6, Ld 23 22, Mv 4 23, Mn 5 0])
 (.ret))
 (.skip)))
 (.seq (.region [Mv 25 0, Mv 26 1, Fa 27 2 6, Ld 28 27, Kc 29 [F 155, T 25, N 2, T 26, N 0, T 28], Mv 24 29, Xt 30 0 24, Xt 31 1 24, Mv 8 30, Mv 9 31])
 (.seq (.seq (.region [Mv 32 9, Bi 33 .eql (T 32) (N 0)])
 (.cond (T 33)
 (.region [Mv 34 0, Nc 35 34, Fa 36 5 35, Ld 37 36, Mv 38 1, Mv 39 8, Kc 40 [F 113, T 37, T 38, T 39, N (-1)]])
 (.skip)))
 (.seq (.region [Mv 41 8, Mv 42 9, Mv 4 41, Mv 5 42])
 (.ret))))))⟩
abbrev n_kern_Kernel_fresh : Nat := 333
def c_kern_Kernel_fresh : AFn := ⟨78, [.tmp 8, .tmp 9], .seq (.region [Mn 8 0, Mn 9 0])
 (.seq (.region [Mv 15 0, Mv 16 1, Mv 17 2, Kc 18 [F 174, T 15, T 16, T 17], Mv 14 18, Xt 19 0 14, Xt 20 1 14, Mv 10 19, Mv 11 20])
 (.seq (.seq (.region [Mv 21 11, Bi 22 .neq (T 21) (N 0)])
 (.cond (T 22)
 (.seq (.region [Mv 23 11, Mn 8 (-1), Mv 9 23])
 (.ret))
 (.skip)))
 (.seq (.region [Mv 25 0, Kc 26 [F 156, T 25, N 2, N 0, N 0], Mv 24 26, Xt 27 0 24, Xt 28 1 24, Mv 12 27, Mv 11 28])
 (.seq (.seq (.region [Mv 29 11, Bi 30 .neq (T 29) (N 0)])
 (.cond (T 30)
 (.seq (.region [Mv 31 11, Mn 8 (-1), Mv 9 31])
 (.ret))
 (.skip)))
 (.seq (.region [Mv 33 0, Nc 34 33, Fa 35 5 34, Ld 36 35, Mv 37 12, Kc 38 [F 190, T 36, T 37], Mv 32 38, Xt 39 0 32, Xt 40 1 32, Mv 13 39, Mv 11 40])
 (.seq (.seq (.region [Mv 41 11, Bi 42 .neq (T 41) (N 0)])
 (.cond (T 42)
 (.seq (.region [Mv 43 0, Nc 44 43, Fa 45 1 44, Ld 46 45, Mv 47 12, Kc 48 [F 117, T 46, T 47]])
 (.seq (.region [Mv 49 11, Mn 8 (-1), Mv 9 49])
 (.ret)))
 (.skip)))
 (.seq (.region [Mv 50 0, Nc 51 50, Fa 52 1 51, Ld 53 52, Mv 54 12, Mv 55 13, Kc 56 [F 191, T 53, T 54, N 2, T 55, N 0]])
 (.seq (.seq (.region [Mv 57 3, Bi 58 .geq (T 57) (N 0)])
 (.cond (T 58)
 (.region [Mv 59 0, Nc 60 59, Fa 61 0 60, Ld 62 61, Mv 63 12, Mv 64 3, Kc 65 [F 160, T 62, T 63, T 64]])
 (.region [Mv 66 0, Nc 67 66, Fa 68 0 67, Ld 69 68, Mv 70 12, Kc 71 [F 146, T 69, T 70]])))
 (.seq (.region [Mv 72 0, Mv 73 10, Mv 74 2, Mv 75 13, Kc 76 [F 205, T 72, T 73, T 74, T 75]])
 (.seq (.region [Mv 77 12, Mv 8 77, Mn 9 0])
 (.ret)))))))))))⟩
abbrev n_pte_Index : Nat := 334
def c_pte_Index : AFn := ⟨18, [.tmp 4], .seq (.region [Mn 4 0])
 (.seq (.seq (.region [Mv 5 1, Bi 6 .lss (T 5) (N 0), Mv 7 6, Mw 8 1 7 false, IG 9 (.bin .geq) [T 8, N 3] 7 false, I 10 .pick [T 7, Tt, T 9]])
 (.cond (T 10)
 (.seq (.region [Mn 4 0])
 (.ret))
 (.skip)))
 (.seq (.region [Mv 11 0, I 12 (.conv .u64) [T 11], Mv 13 1, Bi 14 .mul (N 9) (T 13), Bi 15 .shr (T 12) (T 14), Kc 16 [F 341, T 15, N 9], I 17 (.conv .i64) [T 16], Mv 4 17])
 (.ret)))⟩
abbrev n_pte_Flags : Nat := 336
def c_pte_Flags : AFn := ⟨25, [.tmp 4], .seq (.region [Mn 4 0])
 (.seq (.seq (.region [Mv 5 0, Bi 6 .and (T 5) (N 7), Bi 7 .eql (T 6) (N 0)])
 (.cond (T 7)
 (.seq (.region [Mn 4 0])
 (.ret))
 (.skip)))
 (.seq (.region [I 8 (.build (.agg [(.bool false), Zi]) [(0, 1), (1, 1)]) [Tt, N 1], Mv 9 0, Bi 10 .and (T 9) (N 3), Bi 11 .gtr (T 10) (N 0), I 12 (.build (.agg [(.bool false), Zi]) [(0, 1), (1, 1)]) [T 11, N 2], Mv 13 0, Bi 14 .and (T 13) (N 2), Bi 15 .gtr (T 14) (N 0), I 16 (.build (.agg [(.bool false), Zi]) [(0, 1), (1, 1)]) [T 15, N 4], Mv 17 0, Bi 18 .and (T 17) (N 4), Bi 19 .gtr (T 18) (N 0), I 20 (.build (.agg [(.bool false), Zi]) [(0, 1), (1, 1)]) [T 19, N 8], Mv 21 1, I 22 (.build (.agg [(.bool false), Zi]) [(0, 1), (1, 1)]) [T 21, N 16], I 23 (.bslice 383 2 5 (.vals [(.bool false), Zi]) [0, 1, 2, 3, 4]) [T 8, T 12, T 16, T 20, T 22], Kc 24 [F 357, T 23], Mv 4 24])
 (.ret)))⟩
abbrev n_spread_Counts_At : Nat := 337
def c_spread_Counts_At_A0 : ACode :=
 .region [I 5 (.alloc 323 3 (.vals [Zi, Zi, Zi])) [], J (.store 3) [T 5, T 19]]
def c_spread_Counts_At_B0 : ACode :=
 .block 1 (.seq (.region [Fa 20 2 5, Ld 21 20, J (.store 1) [T 4, T 21]])
 (.ret))
def c_spread_Counts_At : AFn := ⟨22, [.cell 4 .load1], .seq (.region [I 4 (.alloc 3 1 (.vals [Zi])) []])
 (.seq (.seq (.region [Mv 6 1, Bi 7 .lss (T 6) (N 0), Mv 8 7, Mw 9 1 8 false, Mw 10 0 8 false, IG 11 .callv [F 346, T 10] 8 false, IG 12 (.bin .geq) [T 9, T 11] 8 false, I 13 .pick [T 8, Tt, T 12]])
 (.cond (T 13)
 (.seq (.region [J (.store 1) [T 4, N (-1)]])
 (.ret))
 (.skip)))
 (.seq (.seq (.region [Mv 14 0, Mv 15 1, Mv 16 1, Bi 17 .add (T 16) (N 1), Kc 18 [F 279, T 14, T 15, T 17]])
 (.block 0 (.rfun (T 18) [19] c_spread_Counts_At_A0 c_spread_Counts_At_B0)))
 (.seq (.region [J (.store 1) [T 4, N (-1)]])
 (.ret))))⟩
abbrev n_amap_Pool_Used : Nat := 338
def c_amap_Pool_Used : AFn := ⟨6, [.tmp 4], .seq (.region [I 2 (.box 61 1) [T 0], I 3 (.box 3 1) [T 1], I 4 .mv [.lit .nilfunc]])
 (.seq (.region [I 5 (.mkfunc 358 0) [T 2, T 3], Mv 4 5])
 (.ret))⟩
abbrev n_anon_Pool_Ref_1 : Nat := 339
def c_anon_Pool_Ref_1 : AFn := ⟨28, [.tmp 3], .seq (.region [Mn 3 0])
 (.seq (.seq (.draw [[⟨0, Ld 4 1, [], false⟩, ⟨1, Mv 5 0, [], false⟩, ⟨2, Nc 6 5, [], false⟩, ⟨3, Fa 7 0 6, [], false⟩, ⟨4, Ld 8 7, [], false⟩, ⟨5, I 9 (.un .neg) [T 8], [], false⟩, ⟨6, Bi 10 .lss (T 4) (T 9), [], false⟩, ⟨7, Mv 11 10, [], false⟩, ⟨8, IG 12 .load1 [T 1] 11 false, [], false⟩, ⟨9, Mw 13 0 11 false, [], false⟩, ⟨10, IG 14 .nilCheck [T 13] 11 false, [], false⟩, ⟨11, IG 15 (.fieldAddr 0) [T 14] 11 false, [], false⟩, ⟨12, IG 16 .load1 [T 15] 11 false, [], false⟩, ⟨13, IG 17 (.bin .sub) [N 1000000, T 16] 11 false, [], false⟩, ⟨14, IG 18 (.bin .gtr) [T 12, T 17] 11 false, [], false⟩, ⟨15, I 19 .pick [T 11, Tt, T 18], [], false⟩]])
 (.cond (T 19)
 (.seq (.region [Mn 3 2])
 (.ret))
 (.skip)))
 (.seq (.draw [[⟨0, Mv 20 0, [], false⟩, ⟨1, Nc 21 20, [], false⟩, ⟨2, Fa 22 0 21, [], false⟩, ⟨3, Ld 23 22, [], false⟩, ⟨4, Ld 24 1, [], false⟩, ⟨5, Bi 25 .add (T 23) (T 24), [], false⟩, ⟨6, Nc 26 20, [], false⟩, ⟨7, Fa 27 0 26, [], false⟩, ⟨8, J (.store 1) [T 27, T 25], [], false⟩]])
 (.seq (.region [Mn 3 0])
 (.ret))))⟩
abbrev n_phys_Memory_cell : Nat := 340
def c_phys_Memory_cell : AFn := ⟨29, [.tmp 6], .seq (.region [I 6 .mv [.lit .nilsl]])
 (.seq (.region [Mv 8 0, Mv 9 1, Kc 10 [F 159, T 8, T 9], Mv 7 10])
 (.seq (.seq (.region [Mv 11 7, I 12 (.eqv false .ptr) [T 11, .lit .nilptr], Mv 13 12, Mw 14 2 13 false, IG 15 (.bin .lss) [T 14, N 0] 13 false, I 16 .pick [T 13, Tt, T 15], Mv 17 16, Mw 18 2 17 false, IG 19 (.bin .geq) [T 18, N 512] 17 false, I 20 .pick [T 17, Tt, T 19]])
 (.cond (T 20)
 (.seq (.region [I 6 .mv [.lit .nilsl]])
 (.ret))
 (.skip)))
 (.seq (.region [Mv 21 7, Nc 22 21, Mv 23 2, Bi 24 .mul (N 8) (T 23), Mv 25 2, Bi 26 .mul (N 8) (T 25), Bi 27 .add (T 26) (N 8), I 28 (.slicea 4096 1 true true false) [T 22, T 24, T 27], Mv 6 28])
 (.ret))))⟩
abbrev n_pte_low : Nat := 341
def c_pte_low : AFn := ⟨10, [.tmp 4], .seq (.region [I 4 .mv [.lit (.int .u64 0)]])
 (.seq (.region [Mv 5 0, Mv 6 1, I 7 (.bin .shl) [.lit (.int .u64 1), T 6], I 8 (.bin .sub) [T 7, .lit (.int .u64 1)], Bi 9 .and (T 5) (T 8), Mv 4 9])
 (.ret))⟩
abbrev n_spread_Counts_parts_1 : Nat := 342
def c_spread_Counts_parts_1_L0 : ACode :=
 .seq (.region [Bi 16 .lss (T 15) (T 14)])
 (.seq (.cond (T 16)
 (.skip)
 (.exit 0))
 (.seq (.block 1 (.seq (.region [I 17 (.indexs 3) [T 13, T 15], I 18 (.loadn 3) [T 17], I 6 (.alloc 323 3 (.vals [Zi, Zi, Zi])) [], J (.store 3) [T 6, T 18]])
 (.seq (.draw [[⟨0, Fa 19 0 6, [], false⟩, ⟨1, Ld 20 19, [], false⟩, ⟨2, Ld 21 2, [], false⟩, ⟨3, I 22 (.max) [T 20, T 21], [], false⟩, ⟨4, Fa 23 1 6, [], false⟩, ⟨5, Ld 24 23, [], false⟩, ⟨6, Ld 25 3, [], false⟩, ⟨7, I 26 (.min) [T 24, T 25], [], false⟩, ⟨8, Fa 27 0 6, [], false⟩, ⟨9, J (.store 1) [T 27, T 22], [(6, Ld 25 3)], false⟩, ⟨10, Fa 28 1 6, [], false⟩, ⟨11, J (.store 1) [T 28, T 26], [], false⟩]])
 (.seq (.region [Fa 29 0 6, Ld 30 29, Fa 31 1 6, Ld 32 31, Bi 33 .lss (T 30) (T 32), Mv 34 33, Mw 35 0 34 true, IG 36 (.loadn 3) [T 6] 34 true, IG 37 .callv [T 35, T 36] 34 true, IG 38 (.un .not) [T 37] 34 true, I 39 .pick [T 34, T 38, Tf]])
 (.cond (T 39)
 (.ret)
 (.skip))))))
 (.region [Bi 40 .add (T 15) (N 1), Mv 15 40])))
def c_spread_Counts_parts_1 : AFn := ⟨41, [], .seq (.seq (.region [Ld 7 1, Kc 8 [F 278, T 7], I 9 (.un .not) [T 8]])
 (.cond (T 9)
 (.ret)
 (.skip)))
 (.seq (.region [Ld 10 1, Nc 11 10, Fa 12 0 11, Ld 13 12, I 14 .lens [T 13], Mn 15 0])
 (.block 0 (.loop c_spread_Counts_parts_1_L0)))⟩
abbrev n_slices_IndexFunc_api_Run_api_Run : Nat := 343
def c_slices_IndexFunc_api_Run_api_Run_L0 : ACode :=
 .seq (.region [Bi 9 .lss (T 8) (T 7)])
 (.seq (.cond (T 9)
 (.skip)
 (.exit 0))
 (.seq (.block 1 (.seq (.region [Mv 10 8, Mv 5 10])
 (.seq (.region [Mv 11 1, Mv 12 0, Mv 13 5, I 14 (.indexs 3) [T 12, T 13], I 15 (.loadn 3) [T 14], Kc 16 [T 11, T 15]])
 (.cond (T 16)
 (.seq (.region [Mv 17 5, Mv 4 17])
 (.ret))
 (.skip)))))
 (.region [Bi 18 .add (T 8) (N 1), Mv 8 18])))
def c_slices_IndexFunc_api_Run_api_Run : AFn := ⟨19, [.tmp 4], .seq (.region [Mn 4 0])
 (.seq (.seq (.region [Mv 6 0, I 7 .lens [T 6], Mn 8 0])
 (.block 0 (.loop c_slices_IndexFunc_api_Run_api_Run_L0)))
 (.seq (.region [Mn 4 (-1)])
 (.ret)))⟩
abbrev n_spread_split_1 : Nat := 344
def c_spread_split_1 : AFn := ⟨14, [.tmp 3], .seq (.region [I 2 (.box 323 3) [T 0], I 3 .mv [Tf]])
 (.seq (.region [Fa 4 0 2, Ld 5 4, Ld 6 1, Bi 7 .lss (T 5) (T 6), Mv 8 7, IG 9 .load1 [T 1] 8 true, IG 10 (.fieldAddr 1) [T 2] 8 true, IG 11 .load1 [T 10] 8 true, IG 12 (.bin .lss) [T 9, T 11] 8 true, I 13 .pick [T 8, T 12, Tf], Mv 3 13])
 (.ret))⟩
abbrev n_spread_Counts_Len : Nat := 346
def c_spread_Counts_Len : AFn := ⟨10, [.tmp 2], .seq (.region [Mn 2 0])
 (.seq (.seq (.region [Mv 3 0, Kc 4 [F 278, T 3], I 5 (.un .not) [T 4]])
 (.cond (T 5)
 (.seq (.region [Mn 2 0])
 (.ret))
 (.skip)))
 (.seq (.region [Mv 6 0, Nc 7 6, Fa 8 1 7, Ld 9 8, Mv 2 9])
 (.ret)))⟩
abbrev n_pmap_Map_Remove_1 : Nat := 348
def c_pmap_Map_Remove_1 : AFn := ⟨4, [.cell 2 (.loadn 2)], .seq (.region [I 1 (.box 204 2) [T 0], I 2 (.alloc 204 2 (.vals [Zi, Zi])) []])
 (.seq (.region [I 3 (.build (.agg [Zi, Zi]) []) [], J (.store 2) [T 2, T 3]])
 (.ret))⟩
abbrev n_pmap_Map_bare : Nat := 355
def c_pmap_Map_bare_L0 : ACode :=
 .seq (.region [Bi 9 .lss (T 8) (N 512)])
 (.seq (.cond (T 9)
 (.skip)
 (.exit 0))
 (.seq (.block 1 (.seq (.region [Mv 10 8, Mv 5 10])
 (.seq (.region [Mv 12 0, Nc 13 12, Fa 14 0 13, Ld 15 14, Mv 16 1, Mv 17 5, Kc 18 [F 273, T 15, T 16, T 17], Mv 11 18, Xt 19 0 11, Xt 20 1 11, Mv 6 19, Mv 7 20])
 (.seq (.region [Mv 21 6, I 22 (.bin .neq) [T 21, .lit (.int .u64 0)]])
 (.cond (T 22)
 (.seq (.region [I 4 .mv [Tf]])
 (.ret))
 (.skip))))))
 (.region [Bi 23 .add (T 8) (N 1), Mv 8 23])))
def c_pmap_Map_bare : AFn := ⟨24, [.tmp 4], .seq (.region [I 4 .mv [Tf]])
 (.seq (.seq (.region [Mn 8 0])
 (.block 0 (.loop c_pmap_Map_bare_L0)))
 (.seq (.region [I 4 .mv [Tt]])
 (.ret)))⟩
abbrev n_pte_gather : Nat := 357
def c_pte_gather_L0 : ACode :=
 .seq (.region [Bi 9 .lss (T 8) (T 7)])
 (.seq (.cond (T 9)
 (.skip)
 (.exit 0))
 (.seq (.block 1 (.seq (.region [I 10 (.indexs 2) [T 6, T 8], I 11 (.loadn 2) [T 10], I 5 (.alloc 383 2 (.vals [(.bool false), Zi])) [], J (.store 2) [T 5, T 11]])
 (.seq (.region [Fa 12 0 5, Ld 13 12])
 (.cond (T 13)
 (.region [Mv 14 3, Fa 15 1 5, Ld 16 15, Bi 17 .or (T 14) (T 16), Mv 3 17])
 (.skip)))))
 (.region [Bi 18 .add (T 8) (N 1), Mv 8 18])))
def c_pte_gather : AFn := ⟨20, [.tmp 2], .seq (.region [Mn 2 0])
 (.seq (.region [Mn 3 0])
 (.seq (.seq (.region [Mv 6 0, I 7 .lens [T 6], Mn 8 0])
 (.block 0 (.loop c_pte_gather_L0)))
 (.seq (.region [Mv 19 3, Mv 2 19])
 (.ret))))⟩
abbrev n_amap_Pool_Used_1 : Nat := 358
def c_amap_Pool_Used_1_L0 : ACode :=
 .seq (.region [Bi 19 .lss (T 18) (T 17)])
 (.seq (.cond (T 19)
 (.skip)
 (.exit 0))
 (.seq (.block 1 (.seq (.region [Mv 20 18, I 21 (.indexs 1) [T 16, T 18], Ld 22 21, Mv 5 20, Mv 6 22])
 (.seq (.region [Mv 23 6, Bi 24 .gtr (T 23) (N 0), Mv 25 24, Mw 26 0 25 true, Mw 27 5 25 true, Mw 28 6 25 true, IG 29 .callv [T 26, T 27, T 28] 25 true, IG 30 (.un .not) [T 29] 25 true, I 31 .pick [T 25, T 30, Tf]])
 (.cond (T 31)
 (.ret)
 (.skip)))))
 (.region [Bi 32 .add (T 18) (N 1), Mv 18 32])))
def c_amap_Pool_Used_1 : AFn := ⟨33, [], .seq (.region [Ld 7 1, Ld 8 2, Kc 9 [F 228, T 7, T 8], Mv 4 9])
 (.seq (.seq (.region [Mv 10 4, I 11 (.eqv false .ptr) [T 10, .lit .nilptr]])
 (.cond (T 11)
 (.ret)
 (.skip)))
 (.seq (.region [Mv 12 4, Nc 13 12, Fa 14 1 13, Ld 15 14, Kc 16 [F 311, T 15], I 17 .lens [T 16], Mn 18 0])
 (.block 0 (.loop c_amap_Pool_Used_1_L0))))⟩
def tab : BT := (.node (.node (.node (.node (.node (.node (.node (.node .leaf 2 c_gosem_cut_init .leaf) 3 c_law18_KernCopies (.node .leaf 7 c_kern_New .leaf)) 8 c_kern_Kernel_Do (.node (.node .leaf 9 c_kern_Kernel_Resident .leaf) 10 c_law18_lives .leaf)) 15 c_law19_lives (.node (.node (.node .leaf 19 c_kern_Kernel_Byte .leaf) 22 c_law20_lives (.node .leaf 23 c_kern_may .leaf)) 24 c_phys_New (.node (.node .leaf 25 c_frames_New .leaf) 26 c_swap_New .leaf))) 27 c_slots_New (.node (.node (.node (.node .leaf 28 c_file_New .leaf) 29 c_anon_New (.node .leaf 30 c_amap_New .leaf)) 31 c_object_New (.node (.node .leaf 32 c_tlb_New .leaf) 34 c_kern_Kernel_birth .leaf)) 35 c_kern_Kernel_made (.node (.node (.node .leaf 36 c_kern_fails .leaf) 38 c_kern_Kernel_enter (.node .leaf 39 c_kern_Kernel_access .leaf)) 40 c_kern_Kernel_fork (.node (.node .leaf 41 c_kern_Kernel_exit .leaf) 44 c_phys_Memory_Frames .leaf)))) 45 c_frames_Pool_Get (.node (.node (.node (.node (.node .leaf 46 c_kern_Kernel_Evict .leaf) 51 c_slices_Sorted_int (.node .leaf 53 c_frames_Pool_Free .leaf)) 55 c_vmap_Map_At (.node (.node .leaf 56 c_anon_Pool_Get .leaf) 57 c_kern_Kernel_anonAt .leaf)) 58 c_kern_Kernel_held (.node (.node (.node .leaf 59 c_kern_Kernel_gone .leaf) 62 c_daemon_Daemon_made (.node .leaf 64 c_daemon_Daemon_look .leaf)) 67 c_slices_ContainsFunc_int_int (.node (.node .leaf 68 c_file_Store_made .leaf) 69 c_pmap_New .leaf))) 70 c_vmap_New (.node (.node (.node (.node .leaf 77 c_phys_Memory_Byte .leaf) 79 c_phys_Memory_SetByte (.node .leaf 80 c_vmap_Map_Map .leaf)) 81 c_kern_Kernel_strip (.node (.node .leaf 82 c_kern_Kernel_reap .leaf) 83 c_kern_Kernel_allowed .leaf)) 84 c_kern_Kernel_find (.node (.node (.node .leaf 85 c_vmap_Map_Fork .leaf) 86 c_vmap_Map_Entries (.node .leaf 87 c_kern_heir .leaf)) 89 c_kern_Kernel_lend (.node (.node .leaf 90 c_pmap_Map_Close .leaf) 91 c_tlb_Table_FlushAsid .leaf))))) 93 c_amap_Pool_Make (.node (.node (.node (.node (.node (.node .leaf 95 c_kern_Kernel_shed .leaf) 96 c_kern_proc_insert (.node .leaf 99 c_kern_Kernel_outs .leaf)) 103 c_frames_Pool_made (.node (.node .leaf 104 c_kern_Kernel_wired .leaf) 108 c_phys_Memory_Page .leaf)) 109 c_kern_Kernel_leave (.node (.node (.node .leaf 111 c_kern_Kernel_stow .leaf) 113 c_anon_Pool_Put (.node .leaf 116 c_kern_Kernel_alone .leaf)) 117 c_frames_Pool_Give (.node (.node .leaf 118 c_slices_Collect_int .leaf) 119 c_slices_Sort_int_int .leaf))) 121 c_frames_Pool_Count (.node (.node (.node (.node .leaf 122 c_vmap_Map_made .leaf) 123 c_entry_Find (.node .leaf 124 c_anon_Pool_made .leaf)) 125 c_kern_proc_at (.node (.node .leaf 126 c_amap_Pool_Get .leaf) 127 c_swap_Device_Peek .leaf)) 128 c_file_Store_Size (.node (.node (.node .leaf 140 c_kern_Kernel_Procs .leaf) 141 c_pmap_Map_All (.node .leaf 143 c_tlb_Table_Flush .leaf)) 144 c_slices_IndexFunc_int_int (.node (.node .leaf 145 c_frames_Pool_Take .leaf) 146 c_phys_Memory_Zero .leaf)))) 151 c_object_Pool_Ids (.node (.node (.node (.node (.node .leaf 156 c_kern_Kernel_take .leaf) 158 c_phys_Memory_Fill (.node .leaf 159 c_phys_Memory_at .leaf)) 160 c_phys_Memory_Copy (.node (.node .leaf 161 c_entry_Good .leaf) 162 c_vmap_within .leaf)) 163 c_entry_Cut (.node (.node (.node .leaf 164 c_entry_Space .leaf) 165 c_entry_Insert (.node .leaf 166 c_entry_Merge .leaf)) 167 c_kern_proc_between (.node (.node .leaf 168 c_slices_DeleteFunc_kern_area_kern_area .leaf) 169 c_kern_Kernel_strip_1 .leaf))) 170 c_kern_Kernel_reach (.node (.node (.node (.node .leaf 171 c_kern_Kernel_fault .leaf) 172 c_slices_Clone_api_Entry_api_Entry (.node .leaf 173 c_kern_proc_split .leaf)) 174 c_kern_Kernel_own (.node (.node .leaf 175 c_amap_Pool_Hold .leaf) 176 c_kern_area_end .leaf)) 178 c_pmap_Map_made (.node (.node (.node .leaf 179 c_pmap_Map_below .leaf) 180 c_pmap_Map_give (.node .leaf 181 c_tlb_Table_drop .leaf)) 182 c_tlb_Table_FlushAsid_1 (.node (.node .leaf 184 c_amap_Pool_made .leaf) 185 c_spread_New .leaf)))))) 186 c_spread_Counts_Add (.node (.node (.node (.node (.node (.node (.node .leaf 187 c_slices_Index_amap_one_amap_one .leaf) 189 c_amap_Pool_Set (.node .leaf 190 c_anon_Pool_Make .leaf)) 191 c_frames_Pool_Own (.node (.node .leaf 192 c_amap_Pool_Drop .leaf) 193 c_kern_Kernel_drop .leaf)) 194 c_slices_IndexFunc_kern_area_kern_area (.node (.node (.node .leaf 196 c_slices_Insert_kern_area_kern_area .leaf) 200 c_kern_Kernel_out (.node .leaf 205 c_kern_Kernel_put .leaf)) 211 c_slots_Slots_Take (.node (.node .leaf 212 c_swap_Device_Write .leaf) 214 c_object_Pool_made .leaf))) 215 c_anon_Pool_change (.node (.node (.node (.node .leaf 216 c_anon_Pool_Put_1 .leaf) 217 c_frames_Pool_with (.node .leaf 220 c_frames_Pool_Give_1 .leaf)) 221 c_slices_AppendSeq_int_int (.node (.node .leaf 222 c_slices_pdqsortOrdered_int .leaf) 223 c_math_bits_Len .leaf)) 224 c_slices_BinarySearchFunc_api_Entry_api_Entry_int (.node (.node (.node .leaf 225 c_entry_Find_1 .leaf) 226 c_kern_proc_at_1 (.node .leaf 227 c_amap_Pool_Slots .leaf)) 228 c_amap_Pool_of (.node (.node .leaf 229 c_swap_Device_may .leaf) 232 c_slices_Index_int_int .leaf)))) 235 c_ring_Rows_int_Rows (.node (.node (.node (.node (.node .leaf 238 c_maps_Keys_map_int_kern_proc_int_kern_proc .leaf) 239 c_pmap_Map_All_1 (.node .leaf 240 c_walk_Leaves .leaf)) 241 c_pmap_Map_change (.node (.node .leaf 243 c_tlb_Table_Flush_1 .leaf) 244 c_slices_IndexFunc_frames_Frame_frames_Frame .leaf)) 245 c_frames_Pool_Take_1 (.node (.node (.node .leaf 248 c_maps_Keys_map_int_object_one_int_object_one .leaf) 251 c_entry_Clip (.node .leaf 252 c_slices_DeleteFunc_api_Entry_api_Entry .leaf)) 254 c_entry_room (.node (.node .leaf 255 c_slices_Insert_api_Entry_api_Entry .leaf) 257 c_tlb_Table_Find .leaf))) 258 c_pte_May (.node (.node (.node (.node .leaf 259 c_walk_Walk .leaf) 260 c_pmap_Map_Root (.node .leaf 261 c_walk_Look .leaf)) 262 c_tlb_Table_Put (.node (.node .leaf 263 c_kern_Kernel_private .leaf) 264 c_pmap_Map_Enter .leaf)) 265 c_kern_proc_split_1 (.node (.node (.node .leaf 266 c_kern_Kernel_begin .leaf) 267 c_amap_Pool_Cover (.node .leaf 268 c_amap_Pool_Copy .leaf)) 269 c_anon_Pool_Ref (.node (.node .leaf 270 c_amap_Pool_known .leaf) 271 c_amap_one_within .leaf))))) 272 c_spread_Counts_Runs (.node (.node (.node (.node (.node (.node .leaf 273 c_phys_Memory_Word .leaf) 274 c_pte_Decode (.node .leaf 275 c_pte_Kind .leaf)) 276 c_phys_Memory_SetWord (.node (.node .leaf 277 c_spread_Counts_Grow .leaf) 278 c_spread_Counts_made .leaf)) 279 c_spread_Counts_parts (.node (.node (.node .leaf 280 c_spread_split .leaf) 281 c_slices_Clone_api_Run_api_Run (.node .leaf 282 c_spread_join .leaf)) 284 c_frames_Pool_Own_1 (.node (.node .leaf 285 c_spread_Counts_Sum .leaf) 290 c_pmap_Map_Remove .leaf))) 293 c_slots_Slots_TakeRun (.node (.node (.node (.node .leaf 294 c_swap_plan_fails .leaf) 295 c_slots_put (.node .leaf 296 c_anon_free_push .leaf)) 297 c_slices_insertionSortOrdered_int (.node (.node .leaf 307 c_math_bits_Len64 .leaf) 308 c_swap_Device_made .leaf)) 311 c_slices_Clone_int_int (.node (.node (.node .leaf 312 c_maps_Keys_map_int_kern_proc_int_kern_proc_1 .leaf) 313 c_walk_Leaves_1 (.node .leaf 314 c_walk_Leaves_1_1 .leaf)) 315 c_walk_read (.node (.node .leaf 316 c_walk_below .leaf) 317 c_pmap_Map_Find .leaf)))) 318 c_walk_Place (.node (.node (.node (.node (.node .leaf 319 c_pte_Encode .leaf) 320 c_pmap_Map_tidy (.node .leaf 322 c_maps_Keys_map_int_object_one_int_object_one_1 .leaf)) 324 c_slots_has (.node (.node .leaf 325 c_slices_IndexFunc_api_Entry_api_Entry .leaf) 328 c_pte_Canonical .leaf)) 329 c_pte_Split (.node (.node (.node .leaf 330 c_tlb_Table_Put_1 .leaf) 331 c_kern_Kernel_stored (.node .leaf 332 c_kern_Kernel_back .leaf)) 333 c_kern_Kernel_fresh (.node (.node .leaf 334 c_pte_Index .leaf) 336 c_pte_Flags .leaf))) 337 c_spread_Counts_At (.node (.node (.node (.node .leaf 338 c_amap_Pool_Used .leaf) 339 c_anon_Pool_Ref_1 (.node .leaf 340 c_phys_Memory_cell .leaf)) 341 c_pte_low (.node (.node .leaf 342 c_spread_Counts_parts_1 .leaf) 343 c_slices_IndexFunc_api_Run_api_Run .leaf)) 344 c_spread_split_1 (.node (.node (.node .leaf 346 c_spread_Counts_Len .leaf) 348 c_pmap_Map_Remove_1 .leaf) 355 c_pmap_Map_bare (.node (.node .leaf 357 c_pte_gather .leaf) 358 c_amap_Pool_Used_1 .leaf)))))))
theorem i2 : Is Tryz.prog 2 c_gosem_cut_init := ⟨_, Tryz.func2, by kernel_rfl, Tryz.call2⟩
theorem i3 : Is Tryz.prog 3 c_law18_KernCopies := ⟨_, Tryz.func3, by kernel_rfl, Tryz.call3⟩
theorem i7 : Is Tryz.prog 7 c_kern_New := ⟨_, Tryz.func7, by kernel_rfl, Tryz.call7⟩
theorem i8 : Is Tryz.prog 8 c_kern_Kernel_Do := ⟨_, Tryz.func8, by kernel_rfl, Tryz.call8⟩
theorem i9 : Is Tryz.prog 9 c_kern_Kernel_Resident := ⟨_, Tryz.func9, by kernel_rfl, Tryz.call9⟩
theorem i10 : Is Tryz.prog 10 c_law18_lives := ⟨_, Tryz.func10, by kernel_rfl, Tryz.call10⟩
theorem i15 : Is Tryz.prog 15 c_law19_lives := ⟨_, Tryz.func15, by kernel_rfl, Tryz.call15⟩
theorem i19 : Is Tryz.prog 19 c_kern_Kernel_Byte := ⟨_, Tryz.func19, by kernel_rfl, Tryz.call19⟩
theorem i22 : Is Tryz.prog 22 c_law20_lives := ⟨_, Tryz.func22, by kernel_rfl, Tryz.call22⟩
theorem i23 : Is Tryz.prog 23 c_kern_may := ⟨_, Tryz.func23, by kernel_rfl, Tryz.call23⟩
theorem i24 : Is Tryz.prog 24 c_phys_New := ⟨_, Tryz.func24, by kernel_rfl, Tryz.call24⟩
theorem i25 : Is Tryz.prog 25 c_frames_New := ⟨_, Tryz.func25, by kernel_rfl, Tryz.call25⟩
theorem i26 : Is Tryz.prog 26 c_swap_New := ⟨_, Tryz.func26, by kernel_rfl, Tryz.call26⟩
theorem i27 : Is Tryz.prog 27 c_slots_New := ⟨_, Tryz.func27, by kernel_rfl, Tryz.call27⟩
theorem i28 : Is Tryz.prog 28 c_file_New := ⟨_, Tryz.func28, by kernel_rfl, Tryz.call28⟩
theorem i29 : Is Tryz.prog 29 c_anon_New := ⟨_, Tryz.func29, by kernel_rfl, Tryz.call29⟩
theorem i30 : Is Tryz.prog 30 c_amap_New := ⟨_, Tryz.func30, by kernel_rfl, Tryz.call30⟩
theorem i31 : Is Tryz.prog 31 c_object_New := ⟨_, Tryz.func31, by kernel_rfl, Tryz.call31⟩
theorem i32 : Is Tryz.prog 32 c_tlb_New := ⟨_, Tryz.func32, by kernel_rfl, Tryz.call32⟩
theorem i34 : Is Tryz.prog 34 c_kern_Kernel_birth := ⟨_, Tryz.func34, by kernel_rfl, Tryz.call34⟩
theorem i35 : Is Tryz.prog 35 c_kern_Kernel_made := ⟨_, Tryz.func35, by kernel_rfl, Tryz.call35⟩
theorem i36 : Is Tryz.prog 36 c_kern_fails := ⟨_, Tryz.func36, by kernel_rfl, Tryz.call36⟩
theorem i38 : Is Tryz.prog 38 c_kern_Kernel_enter := ⟨_, Tryz.func38, by kernel_rfl, Tryz.call38⟩
theorem i39 : Is Tryz.prog 39 c_kern_Kernel_access := ⟨_, Tryz.func39, by kernel_rfl, Tryz.call39⟩
theorem i40 : Is Tryz.prog 40 c_kern_Kernel_fork := ⟨_, Tryz.func40, by kernel_rfl, Tryz.call40⟩
theorem i41 : Is Tryz.prog 41 c_kern_Kernel_exit := ⟨_, Tryz.func41, by kernel_rfl, Tryz.call41⟩
theorem i44 : Is Tryz.prog 44 c_phys_Memory_Frames := ⟨_, Tryz.func44, by kernel_rfl, Tryz.call44⟩
theorem i45 : Is Tryz.prog 45 c_frames_Pool_Get := ⟨_, Tryz.func45, by kernel_rfl, Tryz.call45⟩
theorem i46 : Is Tryz.prog 46 c_kern_Kernel_Evict := ⟨_, Tryz.func46, by kernel_rfl, Tryz.call46⟩
theorem i51 : Is Tryz.prog 51 c_slices_Sorted_int := ⟨_, Tryz.func51, by kernel_rfl, Tryz.call51⟩
theorem i53 : Is Tryz.prog 53 c_frames_Pool_Free := ⟨_, Tryz.func53, by kernel_rfl, Tryz.call53⟩
theorem i55 : Is Tryz.prog 55 c_vmap_Map_At := ⟨_, Tryz.func55, by kernel_rfl, Tryz.call55⟩
theorem i56 : Is Tryz.prog 56 c_anon_Pool_Get := ⟨_, Tryz.func56, by kernel_rfl, Tryz.call56⟩
theorem i57 : Is Tryz.prog 57 c_kern_Kernel_anonAt := ⟨_, Tryz.func57, by kernel_rfl, Tryz.call57⟩
theorem i58 : Is Tryz.prog 58 c_kern_Kernel_held := ⟨_, Tryz.func58, by kernel_rfl, Tryz.call58⟩
theorem i59 : Is Tryz.prog 59 c_kern_Kernel_gone := ⟨_, Tryz.func59, by kernel_rfl, Tryz.call59⟩
theorem i62 : Is Tryz.prog 62 c_daemon_Daemon_made := ⟨_, Tryz.func62, by kernel_rfl, Tryz.call62⟩
theorem i64 : Is Tryz.prog 64 c_daemon_Daemon_look := ⟨_, Tryz.func64, by kernel_rfl, Tryz.call64⟩
theorem i67 : Is Tryz.prog 67 c_slices_ContainsFunc_int_int := ⟨_, Tryz.func67, by kernel_rfl, Tryz.call67⟩
theorem i68 : Is Tryz.prog 68 c_file_Store_made := ⟨_, Tryz.func68, by kernel_rfl, Tryz.call68⟩
theorem i69 : Is Tryz.prog 69 c_pmap_New := ⟨_, Tryz.func69, by kernel_rfl, Tryz.call69⟩
theorem i70 : Is Tryz.prog 70 c_vmap_New := ⟨_, Tryz.func70, by kernel_rfl, Tryz.call70⟩
theorem i77 : Is Tryz.prog 77 c_phys_Memory_Byte := ⟨_, Tryz.func77, by kernel_rfl, Tryz.call77⟩
theorem i79 : Is Tryz.prog 79 c_phys_Memory_SetByte := ⟨_, Tryz.func79, by kernel_rfl, Tryz.call79⟩
theorem i80 : Is Tryz.prog 80 c_vmap_Map_Map := ⟨_, Tryz.func80, by kernel_rfl, Tryz.call80⟩
theorem i81 : Is Tryz.prog 81 c_kern_Kernel_strip := ⟨_, Tryz.func81, by kernel_rfl, Tryz.call81⟩
theorem i82 : Is Tryz.prog 82 c_kern_Kernel_reap := ⟨_, Tryz.func82, by kernel_rfl, Tryz.call82⟩
theorem i83 : Is Tryz.prog 83 c_kern_Kernel_allowed := ⟨_, Tryz.func83, by kernel_rfl, Tryz.call83⟩
theorem i84 : Is Tryz.prog 84 c_kern_Kernel_find := ⟨_, Tryz.func84, by kernel_rfl, Tryz.call84⟩
theorem i85 : Is Tryz.prog 85 c_vmap_Map_Fork := ⟨_, Tryz.func85, by kernel_rfl, Tryz.call85⟩
theorem i86 : Is Tryz.prog 86 c_vmap_Map_Entries := ⟨_, Tryz.func86, by kernel_rfl, Tryz.call86⟩
theorem i87 : Is Tryz.prog 87 c_kern_heir := ⟨_, Tryz.func87, by kernel_rfl, Tryz.call87⟩
theorem i89 : Is Tryz.prog 89 c_kern_Kernel_lend := ⟨_, Tryz.func89, by kernel_rfl, Tryz.call89⟩
theorem i90 : Is Tryz.prog 90 c_pmap_Map_Close := ⟨_, Tryz.func90, by kernel_rfl, Tryz.call90⟩
theorem i91 : Is Tryz.prog 91 c_tlb_Table_FlushAsid := ⟨_, Tryz.func91, by kernel_rfl, Tryz.call91⟩
theorem i93 : Is Tryz.prog 93 c_amap_Pool_Make := ⟨_, Tryz.func93, by kernel_rfl, Tryz.call93⟩
theorem i95 : Is Tryz.prog 95 c_kern_Kernel_shed := ⟨_, Tryz.func95, by kernel_rfl, Tryz.call95⟩
theorem i96 : Is Tryz.prog 96 c_kern_proc_insert := ⟨_, Tryz.func96, by kernel_rfl, Tryz.call96⟩
theorem i99 : Is Tryz.prog 99 c_kern_Kernel_outs := ⟨_, Tryz.func99, by kernel_rfl, Tryz.call99⟩
theorem i103 : Is Tryz.prog 103 c_frames_Pool_made := ⟨_, Tryz.func103, by kernel_rfl, Tryz.call103⟩
theorem i104 : Is Tryz.prog 104 c_kern_Kernel_wired := ⟨_, Tryz.func104, by kernel_rfl, Tryz.call104⟩
theorem i108 : Is Tryz.prog 108 c_phys_Memory_Page := ⟨_, Tryz.func108, by kernel_rfl, Tryz.call108⟩
theorem i109 : Is Tryz.prog 109 c_kern_Kernel_leave := ⟨_, Tryz.func109, by kernel_rfl, Tryz.call109⟩
theorem i111 : Is Tryz.prog 111 c_kern_Kernel_stow := ⟨_, Tryz.func111, by kernel_rfl, Tryz.call111⟩
theorem i113 : Is Tryz.prog 113 c_anon_Pool_Put := ⟨_, Tryz.func113, by kernel_rfl, Tryz.call113⟩
theorem i116 : Is Tryz.prog 116 c_kern_Kernel_alone := ⟨_, Tryz.func116, by kernel_rfl, Tryz.call116⟩
theorem i117 : Is Tryz.prog 117 c_frames_Pool_Give := ⟨_, Tryz.func117, by kernel_rfl, Tryz.call117⟩
theorem i118 : Is Tryz.prog 118 c_slices_Collect_int := ⟨_, Tryz.func118, by kernel_rfl, Tryz.call118⟩
theorem i119 : Is Tryz.prog 119 c_slices_Sort_int_int := ⟨_, Tryz.func119, by kernel_rfl, Tryz.call119⟩
theorem i121 : Is Tryz.prog 121 c_frames_Pool_Count := ⟨_, Tryz.func121, by kernel_rfl, Tryz.call121⟩
theorem i122 : Is Tryz.prog 122 c_vmap_Map_made := ⟨_, Tryz.func122, by kernel_rfl, Tryz.call122⟩
theorem i123 : Is Tryz.prog 123 c_entry_Find := ⟨_, Tryz.func123, by kernel_rfl, Tryz.call123⟩
theorem i124 : Is Tryz.prog 124 c_anon_Pool_made := ⟨_, Tryz.func124, by kernel_rfl, Tryz.call124⟩
theorem i125 : Is Tryz.prog 125 c_kern_proc_at := ⟨_, Tryz.func125, by kernel_rfl, Tryz.call125⟩
theorem i126 : Is Tryz.prog 126 c_amap_Pool_Get := ⟨_, Tryz.func126, by kernel_rfl, Tryz.call126⟩
theorem i127 : Is Tryz.prog 127 c_swap_Device_Peek := ⟨_, Tryz.func127, by kernel_rfl, Tryz.call127⟩
theorem i128 : Is Tryz.prog 128 c_file_Store_Size := ⟨_, Tryz.func128, by kernel_rfl, Tryz.call128⟩
theorem i140 : Is Tryz.prog 140 c_kern_Kernel_Procs := ⟨_, Tryz.func140, by kernel_rfl, Tryz.call140⟩
theorem i141 : Is Tryz.prog 141 c_pmap_Map_All := ⟨_, Tryz.func141, by kernel_rfl, Tryz.call141⟩
theorem i143 : Is Tryz.prog 143 c_tlb_Table_Flush := ⟨_, Tryz.func143, by kernel_rfl, Tryz.call143⟩
theorem i144 : Is Tryz.prog 144 c_slices_IndexFunc_int_int := ⟨_, Tryz.func144, by kernel_rfl, Tryz.call144⟩
theorem i145 : Is Tryz.prog 145 c_frames_Pool_Take := ⟨_, Tryz.func145, by kernel_rfl, Tryz.call145⟩
theorem i146 : Is Tryz.prog 146 c_phys_Memory_Zero := ⟨_, Tryz.func146, by kernel_rfl, Tryz.call146⟩
theorem i151 : Is Tryz.prog 151 c_object_Pool_Ids := ⟨_, Tryz.func151, by kernel_rfl, Tryz.call151⟩
theorem i156 : Is Tryz.prog 156 c_kern_Kernel_take := ⟨_, Tryz.func156, by kernel_rfl, Tryz.call156⟩
theorem i158 : Is Tryz.prog 158 c_phys_Memory_Fill := ⟨_, Tryz.func158, by kernel_rfl, Tryz.call158⟩
theorem i159 : Is Tryz.prog 159 c_phys_Memory_at := ⟨_, Tryz.func159, by kernel_rfl, Tryz.call159⟩
theorem i160 : Is Tryz.prog 160 c_phys_Memory_Copy := ⟨_, Tryz.func160, by kernel_rfl, Tryz.call160⟩
theorem i161 : Is Tryz.prog 161 c_entry_Good := ⟨_, Tryz.func161, by kernel_rfl, Tryz.call161⟩
theorem i162 : Is Tryz.prog 162 c_vmap_within := ⟨_, Tryz.func162, by kernel_rfl, Tryz.call162⟩
theorem i163 : Is Tryz.prog 163 c_entry_Cut := ⟨_, Tryz.func163, by kernel_rfl, Tryz.call163⟩
theorem i164 : Is Tryz.prog 164 c_entry_Space := ⟨_, Tryz.func164, by kernel_rfl, Tryz.call164⟩
theorem i165 : Is Tryz.prog 165 c_entry_Insert := ⟨_, Tryz.func165, by kernel_rfl, Tryz.call165⟩
theorem i166 : Is Tryz.prog 166 c_entry_Merge := ⟨_, Tryz.func166, by kernel_rfl, Tryz.call166⟩
theorem i167 : Is Tryz.prog 167 c_kern_proc_between := ⟨_, Tryz.func167, by kernel_rfl, Tryz.call167⟩
theorem i168 : Is Tryz.prog 168 c_slices_DeleteFunc_kern_area_kern_area := ⟨_, Tryz.func168, by kernel_rfl, Tryz.call168⟩
theorem i169 : Is Tryz.prog 169 c_kern_Kernel_strip_1 := ⟨_, Tryz.func169, by kernel_rfl, Tryz.call169⟩
theorem i170 : Is Tryz.prog 170 c_kern_Kernel_reach := ⟨_, Tryz.func170, by kernel_rfl, Tryz.call170⟩
theorem i171 : Is Tryz.prog 171 c_kern_Kernel_fault := ⟨_, Tryz.func171, by kernel_rfl, Tryz.call171⟩
theorem i172 : Is Tryz.prog 172 c_slices_Clone_api_Entry_api_Entry := ⟨_, Tryz.func172, by kernel_rfl, Tryz.call172⟩
theorem i173 : Is Tryz.prog 173 c_kern_proc_split := ⟨_, Tryz.func173, by kernel_rfl, Tryz.call173⟩
theorem i174 : Is Tryz.prog 174 c_kern_Kernel_own := ⟨_, Tryz.func174, by kernel_rfl, Tryz.call174⟩
theorem i175 : Is Tryz.prog 175 c_amap_Pool_Hold := ⟨_, Tryz.func175, by kernel_rfl, Tryz.call175⟩
theorem i176 : Is Tryz.prog 176 c_kern_area_end := ⟨_, Tryz.func176, by kernel_rfl, Tryz.call176⟩
theorem i178 : Is Tryz.prog 178 c_pmap_Map_made := ⟨_, Tryz.func178, by kernel_rfl, Tryz.call178⟩
theorem i179 : Is Tryz.prog 179 c_pmap_Map_below := ⟨_, Tryz.func179, by kernel_rfl, Tryz.call179⟩
theorem i180 : Is Tryz.prog 180 c_pmap_Map_give := ⟨_, Tryz.func180, by kernel_rfl, Tryz.call180⟩
theorem i181 : Is Tryz.prog 181 c_tlb_Table_drop := ⟨_, Tryz.func181, by kernel_rfl, Tryz.call181⟩
theorem i182 : Is Tryz.prog 182 c_tlb_Table_FlushAsid_1 := ⟨_, Tryz.func182, by kernel_rfl, Tryz.call182⟩
theorem i184 : Is Tryz.prog 184 c_amap_Pool_made := ⟨_, Tryz.func184, by kernel_rfl, Tryz.call184⟩
theorem i185 : Is Tryz.prog 185 c_spread_New := ⟨_, Tryz.func185, by kernel_rfl, Tryz.call185⟩
theorem i186 : Is Tryz.prog 186 c_spread_Counts_Add := ⟨_, Tryz.func186, by kernel_rfl, Tryz.call186⟩
theorem i187 : Is Tryz.prog 187 c_slices_Index_amap_one_amap_one := ⟨_, Tryz.func187, by kernel_rfl, Tryz.call187⟩
theorem i189 : Is Tryz.prog 189 c_amap_Pool_Set := ⟨_, Tryz.func189, by kernel_rfl, Tryz.call189⟩
theorem i190 : Is Tryz.prog 190 c_anon_Pool_Make := ⟨_, Tryz.func190, by kernel_rfl, Tryz.call190⟩
theorem i191 : Is Tryz.prog 191 c_frames_Pool_Own := ⟨_, Tryz.func191, by kernel_rfl, Tryz.call191⟩
theorem i192 : Is Tryz.prog 192 c_amap_Pool_Drop := ⟨_, Tryz.func192, by kernel_rfl, Tryz.call192⟩
theorem i193 : Is Tryz.prog 193 c_kern_Kernel_drop := ⟨_, Tryz.func193, by kernel_rfl, Tryz.call193⟩
theorem i194 : Is Tryz.prog 194 c_slices_IndexFunc_kern_area_kern_area := ⟨_, Tryz.func194, by kernel_rfl, Tryz.call194⟩
theorem i196 : Is Tryz.prog 196 c_slices_Insert_kern_area_kern_area := ⟨_, Tryz.func196, by kernel_rfl, Tryz.call196⟩
theorem i200 : Is Tryz.prog 200 c_kern_Kernel_out := ⟨_, Tryz.func200, by kernel_rfl, Tryz.call200⟩
theorem i205 : Is Tryz.prog 205 c_kern_Kernel_put := ⟨_, Tryz.func205, by kernel_rfl, Tryz.call205⟩
theorem i211 : Is Tryz.prog 211 c_slots_Slots_Take := ⟨_, Tryz.func211, by kernel_rfl, Tryz.call211⟩
theorem i212 : Is Tryz.prog 212 c_swap_Device_Write := ⟨_, Tryz.func212, by kernel_rfl, Tryz.call212⟩
theorem i214 : Is Tryz.prog 214 c_object_Pool_made := ⟨_, Tryz.func214, by kernel_rfl, Tryz.call214⟩
theorem i215 : Is Tryz.prog 215 c_anon_Pool_change := ⟨_, Tryz.func215, by kernel_rfl, Tryz.call215⟩
theorem i216 : Is Tryz.prog 216 c_anon_Pool_Put_1 := ⟨_, Tryz.func216, by kernel_rfl, Tryz.call216⟩
theorem i217 : Is Tryz.prog 217 c_frames_Pool_with := ⟨_, Tryz.func217, by kernel_rfl, Tryz.call217⟩
theorem i220 : Is Tryz.prog 220 c_frames_Pool_Give_1 := ⟨_, Tryz.func220, by kernel_rfl, Tryz.call220⟩
theorem i221 : Is Tryz.prog 221 c_slices_AppendSeq_int_int := ⟨_, Tryz.func221, by kernel_rfl, Tryz.call221⟩
theorem i222 : Is Tryz.prog 222 c_slices_pdqsortOrdered_int := ⟨_, Tryz.func222, by kernel_rfl, Tryz.call222⟩
theorem i223 : Is Tryz.prog 223 c_math_bits_Len := ⟨_, Tryz.func223, by kernel_rfl, Tryz.call223⟩
theorem i224 : Is Tryz.prog 224 c_slices_BinarySearchFunc_api_Entry_api_Entry_int := ⟨_, Tryz.func224, by kernel_rfl, Tryz.call224⟩
theorem i225 : Is Tryz.prog 225 c_entry_Find_1 := ⟨_, Tryz.func225, by kernel_rfl, Tryz.call225⟩
theorem i226 : Is Tryz.prog 226 c_kern_proc_at_1 := ⟨_, Tryz.func226, by kernel_rfl, Tryz.call226⟩
theorem i227 : Is Tryz.prog 227 c_amap_Pool_Slots := ⟨_, Tryz.func227, by kernel_rfl, Tryz.call227⟩
theorem i228 : Is Tryz.prog 228 c_amap_Pool_of := ⟨_, Tryz.func228, by kernel_rfl, Tryz.call228⟩
theorem i229 : Is Tryz.prog 229 c_swap_Device_may := ⟨_, Tryz.func229, by kernel_rfl, Tryz.call229⟩
theorem i232 : Is Tryz.prog 232 c_slices_Index_int_int := ⟨_, Tryz.func232, by kernel_rfl, Tryz.call232⟩
theorem i235 : Is Tryz.prog 235 c_ring_Rows_int_Rows := ⟨_, Tryz.func235, by kernel_rfl, Tryz.call235⟩
theorem i238 : Is Tryz.prog 238 c_maps_Keys_map_int_kern_proc_int_kern_proc := ⟨_, Tryz.func238, by kernel_rfl, Tryz.call238⟩
theorem i239 : Is Tryz.prog 239 c_pmap_Map_All_1 := ⟨_, Tryz.func239, by kernel_rfl, Tryz.call239⟩
theorem i240 : Is Tryz.prog 240 c_walk_Leaves := ⟨_, Tryz.func240, by kernel_rfl, Tryz.call240⟩
theorem i241 : Is Tryz.prog 241 c_pmap_Map_change := ⟨_, Tryz.func241, by kernel_rfl, Tryz.call241⟩
theorem i243 : Is Tryz.prog 243 c_tlb_Table_Flush_1 := ⟨_, Tryz.func243, by kernel_rfl, Tryz.call243⟩
theorem i244 : Is Tryz.prog 244 c_slices_IndexFunc_frames_Frame_frames_Frame := ⟨_, Tryz.func244, by kernel_rfl, Tryz.call244⟩
theorem i245 : Is Tryz.prog 245 c_frames_Pool_Take_1 := ⟨_, Tryz.func245, by kernel_rfl, Tryz.call245⟩
theorem i248 : Is Tryz.prog 248 c_maps_Keys_map_int_object_one_int_object_one := ⟨_, Tryz.func248, by kernel_rfl, Tryz.call248⟩
theorem i251 : Is Tryz.prog 251 c_entry_Clip := ⟨_, Tryz.func251, by kernel_rfl, Tryz.call251⟩
theorem i252 : Is Tryz.prog 252 c_slices_DeleteFunc_api_Entry_api_Entry := ⟨_, Tryz.func252, by kernel_rfl, Tryz.call252⟩
theorem i254 : Is Tryz.prog 254 c_entry_room := ⟨_, Tryz.func254, by kernel_rfl, Tryz.call254⟩
theorem i255 : Is Tryz.prog 255 c_slices_Insert_api_Entry_api_Entry := ⟨_, Tryz.func255, by kernel_rfl, Tryz.call255⟩
theorem i257 : Is Tryz.prog 257 c_tlb_Table_Find := ⟨_, Tryz.func257, by kernel_rfl, Tryz.call257⟩
theorem i258 : Is Tryz.prog 258 c_pte_May := ⟨_, Tryz.func258, by kernel_rfl, Tryz.call258⟩
theorem i259 : Is Tryz.prog 259 c_walk_Walk := ⟨_, Tryz.func259, by kernel_rfl, Tryz.call259⟩
theorem i260 : Is Tryz.prog 260 c_pmap_Map_Root := ⟨_, Tryz.func260, by kernel_rfl, Tryz.call260⟩
theorem i261 : Is Tryz.prog 261 c_walk_Look := ⟨_, Tryz.func261, by kernel_rfl, Tryz.call261⟩
theorem i262 : Is Tryz.prog 262 c_tlb_Table_Put := ⟨_, Tryz.func262, by kernel_rfl, Tryz.call262⟩
theorem i263 : Is Tryz.prog 263 c_kern_Kernel_private := ⟨_, Tryz.func263, by kernel_rfl, Tryz.call263⟩
theorem i264 : Is Tryz.prog 264 c_pmap_Map_Enter := ⟨_, Tryz.func264, by kernel_rfl, Tryz.call264⟩
theorem i265 : Is Tryz.prog 265 c_kern_proc_split_1 := ⟨_, Tryz.func265, by kernel_rfl, Tryz.call265⟩
theorem i266 : Is Tryz.prog 266 c_kern_Kernel_begin := ⟨_, Tryz.func266, by kernel_rfl, Tryz.call266⟩
theorem i267 : Is Tryz.prog 267 c_amap_Pool_Cover := ⟨_, Tryz.func267, by kernel_rfl, Tryz.call267⟩
theorem i268 : Is Tryz.prog 268 c_amap_Pool_Copy := ⟨_, Tryz.func268, by kernel_rfl, Tryz.call268⟩
theorem i269 : Is Tryz.prog 269 c_anon_Pool_Ref := ⟨_, Tryz.func269, by kernel_rfl, Tryz.call269⟩
theorem i270 : Is Tryz.prog 270 c_amap_Pool_known := ⟨_, Tryz.func270, by kernel_rfl, Tryz.call270⟩
theorem i271 : Is Tryz.prog 271 c_amap_one_within := ⟨_, Tryz.func271, by kernel_rfl, Tryz.call271⟩
theorem i272 : Is Tryz.prog 272 c_spread_Counts_Runs := ⟨_, Tryz.func272, by kernel_rfl, Tryz.call272⟩
theorem i273 : Is Tryz.prog 273 c_phys_Memory_Word := ⟨_, Tryz.func273, by kernel_rfl, Tryz.call273⟩
theorem i274 : Is Tryz.prog 274 c_pte_Decode := ⟨_, Tryz.func274, by kernel_rfl, Tryz.call274⟩
theorem i275 : Is Tryz.prog 275 c_pte_Kind := ⟨_, Tryz.func275, by kernel_rfl, Tryz.call275⟩
theorem i276 : Is Tryz.prog 276 c_phys_Memory_SetWord := ⟨_, Tryz.func276, by kernel_rfl, Tryz.call276⟩
theorem i277 : Is Tryz.prog 277 c_spread_Counts_Grow := ⟨_, Tryz.func277, by kernel_rfl, Tryz.call277⟩
theorem i278 : Is Tryz.prog 278 c_spread_Counts_made := ⟨_, Tryz.func278, by kernel_rfl, Tryz.call278⟩
theorem i279 : Is Tryz.prog 279 c_spread_Counts_parts := ⟨_, Tryz.func279, by kernel_rfl, Tryz.call279⟩
theorem i280 : Is Tryz.prog 280 c_spread_split := ⟨_, Tryz.func280, by kernel_rfl, Tryz.call280⟩
theorem i281 : Is Tryz.prog 281 c_slices_Clone_api_Run_api_Run := ⟨_, Tryz.func281, by kernel_rfl, Tryz.call281⟩
theorem i282 : Is Tryz.prog 282 c_spread_join := ⟨_, Tryz.func282, by kernel_rfl, Tryz.call282⟩
theorem i284 : Is Tryz.prog 284 c_frames_Pool_Own_1 := ⟨_, Tryz.func284, by kernel_rfl, Tryz.call284⟩
theorem i285 : Is Tryz.prog 285 c_spread_Counts_Sum := ⟨_, Tryz.func285, by kernel_rfl, Tryz.call285⟩
theorem i290 : Is Tryz.prog 290 c_pmap_Map_Remove := ⟨_, Tryz.func290, by kernel_rfl, Tryz.call290⟩
theorem i293 : Is Tryz.prog 293 c_slots_Slots_TakeRun := ⟨_, Tryz.func293, by kernel_rfl, Tryz.call293⟩
theorem i294 : Is Tryz.prog 294 c_swap_plan_fails := ⟨_, Tryz.func294, by kernel_rfl, Tryz.call294⟩
theorem i295 : Is Tryz.prog 295 c_slots_put := ⟨_, Tryz.func295, by kernel_rfl, Tryz.call295⟩
theorem i296 : Is Tryz.prog 296 c_anon_free_push := ⟨_, Tryz.func296, by kernel_rfl, Tryz.call296⟩
theorem i297 : Is Tryz.prog 297 c_slices_insertionSortOrdered_int := ⟨_, Tryz.func297, by kernel_rfl, Tryz.call297⟩
theorem i307 : Is Tryz.prog 307 c_math_bits_Len64 := ⟨_, Tryz.func307, by kernel_rfl, Tryz.call307⟩
theorem i308 : Is Tryz.prog 308 c_swap_Device_made := ⟨_, Tryz.func308, by kernel_rfl, Tryz.call308⟩
theorem i311 : Is Tryz.prog 311 c_slices_Clone_int_int := ⟨_, Tryz.func311, by kernel_rfl, Tryz.call311⟩
theorem i312 : Is Tryz.prog 312 c_maps_Keys_map_int_kern_proc_int_kern_proc_1 := ⟨_, Tryz.func312, by kernel_rfl, Tryz.call312⟩
theorem i313 : Is Tryz.prog 313 c_walk_Leaves_1 := ⟨_, Tryz.func313, by kernel_rfl, Tryz.call313⟩
theorem i314 : Is Tryz.prog 314 c_walk_Leaves_1_1 := ⟨_, Tryz.func314, by kernel_rfl, Tryz.call314⟩
theorem i315 : Is Tryz.prog 315 c_walk_read := ⟨_, Tryz.func315, by kernel_rfl, Tryz.call315⟩
theorem i316 : Is Tryz.prog 316 c_walk_below := ⟨_, Tryz.func316, by kernel_rfl, Tryz.call316⟩
theorem i317 : Is Tryz.prog 317 c_pmap_Map_Find := ⟨_, Tryz.func317, by kernel_rfl, Tryz.call317⟩
theorem i318 : Is Tryz.prog 318 c_walk_Place := ⟨_, Tryz.func318, by kernel_rfl, Tryz.call318⟩
theorem i319 : Is Tryz.prog 319 c_pte_Encode := ⟨_, Tryz.func319, by kernel_rfl, Tryz.call319⟩
theorem i320 : Is Tryz.prog 320 c_pmap_Map_tidy := ⟨_, Tryz.func320, by kernel_rfl, Tryz.call320⟩
theorem i322 : Is Tryz.prog 322 c_maps_Keys_map_int_object_one_int_object_one_1 := ⟨_, Tryz.func322, by kernel_rfl, Tryz.call322⟩
theorem i324 : Is Tryz.prog 324 c_slots_has := ⟨_, Tryz.func324, by kernel_rfl, Tryz.call324⟩
theorem i325 : Is Tryz.prog 325 c_slices_IndexFunc_api_Entry_api_Entry := ⟨_, Tryz.func325, by kernel_rfl, Tryz.call325⟩
theorem i328 : Is Tryz.prog 328 c_pte_Canonical := ⟨_, Tryz.func328, by kernel_rfl, Tryz.call328⟩
theorem i329 : Is Tryz.prog 329 c_pte_Split := ⟨_, Tryz.func329, by kernel_rfl, Tryz.call329⟩
theorem i330 : Is Tryz.prog 330 c_tlb_Table_Put_1 := ⟨_, Tryz.func330, by kernel_rfl, Tryz.call330⟩
theorem i331 : Is Tryz.prog 331 c_kern_Kernel_stored := ⟨_, Tryz.func331, by kernel_rfl, Tryz.call331⟩
theorem i332 : Is Tryz.prog 332 c_kern_Kernel_back := ⟨_, Tryz.func332, by kernel_rfl, Tryz.call332⟩
theorem i333 : Is Tryz.prog 333 c_kern_Kernel_fresh := ⟨_, Tryz.func333, by kernel_rfl, Tryz.call333⟩
theorem i334 : Is Tryz.prog 334 c_pte_Index := ⟨_, Tryz.func334, by kernel_rfl, Tryz.call334⟩
theorem i336 : Is Tryz.prog 336 c_pte_Flags := ⟨_, Tryz.func336, by kernel_rfl, Tryz.call336⟩
theorem i337 : Is Tryz.prog 337 c_spread_Counts_At := ⟨_, Tryz.func337, by kernel_rfl, Tryz.call337⟩
theorem i338 : Is Tryz.prog 338 c_amap_Pool_Used := ⟨_, Tryz.func338, by kernel_rfl, Tryz.call338⟩
theorem i339 : Is Tryz.prog 339 c_anon_Pool_Ref_1 := ⟨_, Tryz.func339, by kernel_rfl, Tryz.call339⟩
theorem i340 : Is Tryz.prog 340 c_phys_Memory_cell := ⟨_, Tryz.func340, by kernel_rfl, Tryz.call340⟩
theorem i341 : Is Tryz.prog 341 c_pte_low := ⟨_, Tryz.func341, by kernel_rfl, Tryz.call341⟩
theorem i342 : Is Tryz.prog 342 c_spread_Counts_parts_1 := ⟨_, Tryz.func342, by kernel_rfl, Tryz.call342⟩
theorem i343 : Is Tryz.prog 343 c_slices_IndexFunc_api_Run_api_Run := ⟨_, Tryz.func343, by kernel_rfl, Tryz.call343⟩
theorem i344 : Is Tryz.prog 344 c_spread_split_1 := ⟨_, Tryz.func344, by kernel_rfl, Tryz.call344⟩
theorem i346 : Is Tryz.prog 346 c_spread_Counts_Len := ⟨_, Tryz.func346, by kernel_rfl, Tryz.call346⟩
theorem i348 : Is Tryz.prog 348 c_pmap_Map_Remove_1 := ⟨_, Tryz.func348, by kernel_rfl, Tryz.call348⟩
theorem i355 : Is Tryz.prog 355 c_pmap_Map_bare := ⟨_, Tryz.func355, by kernel_rfl, Tryz.call355⟩
theorem i357 : Is Tryz.prog 357 c_pte_gather := ⟨_, Tryz.func357, by kernel_rfl, Tryz.call357⟩
theorem i358 : Is Tryz.prog 358 c_amap_Pool_Used_1 := ⟨_, Tryz.func358, by kernel_rfl, Tryz.call358⟩
theorem tabSound : AllB (Is Tryz.prog) tab := ⟨⟨⟨⟨⟨⟨⟨⟨trivial, i2, trivial⟩, i3, ⟨trivial, i7, trivial⟩⟩, i8, ⟨⟨trivial, i9, trivial⟩, i10, trivial⟩⟩, i15, ⟨⟨⟨trivial, i19, trivial⟩, i22, ⟨trivial, i23, trivial⟩⟩, i24, ⟨⟨trivial, i25, trivial⟩, i26, trivial⟩⟩⟩, i27, ⟨⟨⟨⟨trivial, i28, trivial⟩, i29, ⟨trivial, i30, trivial⟩⟩, i31, ⟨⟨trivial, i32, trivial⟩, i34, trivial⟩⟩, i35, ⟨⟨⟨trivial, i36, trivial⟩, i38, ⟨trivial, i39, trivial⟩⟩, i40, ⟨⟨trivial, i41, trivial⟩, i44, trivial⟩⟩⟩⟩, i45, ⟨⟨⟨⟨⟨trivial, i46, trivial⟩, i51, ⟨trivial, i53, trivial⟩⟩, i55, ⟨⟨trivial, i56, trivial⟩, i57, trivial⟩⟩, i58, ⟨⟨⟨trivial, i59, trivial⟩, i62, ⟨trivial, i64, trivial⟩⟩, i67, ⟨⟨trivial, i68, trivial⟩, i69, trivial⟩⟩⟩, i70, ⟨⟨⟨⟨trivial, i77, trivial⟩, i79, ⟨trivial, i80, trivial⟩⟩, i81, ⟨⟨trivial, i82, trivial⟩, i83, trivial⟩⟩, i84, ⟨⟨⟨trivial, i85, trivial⟩, i86, ⟨trivial, i87, trivial⟩⟩, i89, ⟨⟨trivial, i90, trivial⟩, i91, trivial⟩⟩⟩⟩⟩, i93, ⟨⟨⟨⟨⟨⟨trivial, i95, trivial⟩, i96, ⟨trivial, i99, trivial⟩⟩, i103, ⟨⟨trivial, i104, trivial⟩, i108, trivial⟩⟩, i109, ⟨⟨⟨trivial, i111, trivial⟩, i113, ⟨trivial, i116, trivial⟩⟩, i117, ⟨⟨trivial, i118, trivial⟩, i119, trivial⟩⟩⟩, i121, ⟨⟨⟨⟨trivial, i122, trivial⟩, i123, ⟨trivial, i124, trivial⟩⟩, i125, ⟨⟨trivial, i126, trivial⟩, i127, trivial⟩⟩, i128, ⟨⟨⟨trivial, i140, trivial⟩, i141, ⟨trivial, i143, trivial⟩⟩, i144, ⟨⟨trivial, i145, trivial⟩, i146, trivial⟩⟩⟩⟩, i151, ⟨⟨⟨⟨⟨trivial, i156, trivial⟩, i158, ⟨trivial, i159, trivial⟩⟩, i160, ⟨⟨trivial, i161, trivial⟩, i162, trivial⟩⟩, i163, ⟨⟨⟨trivial, i164, trivial⟩, i165, ⟨trivial, i166, trivial⟩⟩, i167, ⟨⟨trivial, i168, trivial⟩, i169, trivial⟩⟩⟩, i170, ⟨⟨⟨⟨trivial, i171, trivial⟩, i172, ⟨trivial, i173, trivial⟩⟩, i174, ⟨⟨trivial, i175, trivial⟩, i176, trivial⟩⟩, i178, ⟨⟨⟨trivial, i179, trivial⟩, i180, ⟨trivial, i181, trivial⟩⟩, i182, ⟨⟨trivial, i184, trivial⟩, i185, trivial⟩⟩⟩⟩⟩⟩, i186, ⟨⟨⟨⟨⟨⟨⟨trivial, i187, trivial⟩, i189, ⟨trivial, i190, trivial⟩⟩, i191, ⟨⟨trivial, i192, trivial⟩, i193, trivial⟩⟩, i194, ⟨⟨⟨trivial, i196, trivial⟩, i200, ⟨trivial, i205, trivial⟩⟩, i211, ⟨⟨trivial, i212, trivial⟩, i214, trivial⟩⟩⟩, i215, ⟨⟨⟨⟨trivial, i216, trivial⟩, i217, ⟨trivial, i220, trivial⟩⟩, i221, ⟨⟨trivial, i222, trivial⟩, i223, trivial⟩⟩, i224, ⟨⟨⟨trivial, i225, trivial⟩, i226, ⟨trivial, i227, trivial⟩⟩, i228, ⟨⟨trivial, i229, trivial⟩, i232, trivial⟩⟩⟩⟩, i235, ⟨⟨⟨⟨⟨trivial, i238, trivial⟩, i239, ⟨trivial, i240, trivial⟩⟩, i241, ⟨⟨trivial, i243, trivial⟩, i244, trivial⟩⟩, i245, ⟨⟨⟨trivial, i248, trivial⟩, i251, ⟨trivial, i252, trivial⟩⟩, i254, ⟨⟨trivial, i255, trivial⟩, i257, trivial⟩⟩⟩, i258, ⟨⟨⟨⟨trivial, i259, trivial⟩, i260, ⟨trivial, i261, trivial⟩⟩, i262, ⟨⟨trivial, i263, trivial⟩, i264, trivial⟩⟩, i265, ⟨⟨⟨trivial, i266, trivial⟩, i267, ⟨trivial, i268, trivial⟩⟩, i269, ⟨⟨trivial, i270, trivial⟩, i271, trivial⟩⟩⟩⟩⟩, i272, ⟨⟨⟨⟨⟨⟨trivial, i273, trivial⟩, i274, ⟨trivial, i275, trivial⟩⟩, i276, ⟨⟨trivial, i277, trivial⟩, i278, trivial⟩⟩, i279, ⟨⟨⟨trivial, i280, trivial⟩, i281, ⟨trivial, i282, trivial⟩⟩, i284, ⟨⟨trivial, i285, trivial⟩, i290, trivial⟩⟩⟩, i293, ⟨⟨⟨⟨trivial, i294, trivial⟩, i295, ⟨trivial, i296, trivial⟩⟩, i297, ⟨⟨trivial, i307, trivial⟩, i308, trivial⟩⟩, i311, ⟨⟨⟨trivial, i312, trivial⟩, i313, ⟨trivial, i314, trivial⟩⟩, i315, ⟨⟨trivial, i316, trivial⟩, i317, trivial⟩⟩⟩⟩, i318, ⟨⟨⟨⟨⟨trivial, i319, trivial⟩, i320, ⟨trivial, i322, trivial⟩⟩, i324, ⟨⟨trivial, i325, trivial⟩, i328, trivial⟩⟩, i329, ⟨⟨⟨trivial, i330, trivial⟩, i331, ⟨trivial, i332, trivial⟩⟩, i333, ⟨⟨trivial, i334, trivial⟩, i336, trivial⟩⟩⟩, i337, ⟨⟨⟨⟨trivial, i338, trivial⟩, i339, ⟨trivial, i340, trivial⟩⟩, i341, ⟨⟨trivial, i342, trivial⟩, i343, trivial⟩⟩, i344, ⟨⟨⟨trivial, i346, trivial⟩, i348, trivial⟩, i355, ⟨⟨trivial, i357, trivial⟩, i358, trivial⟩⟩⟩⟩⟩⟩⟩
end Go.Proofs.YtlkfclgkinaibaaGreat

namespace Go.Proofs.YtlkfclgkinaibaaGreat
abbrev isLives (n : Nat) : Bool := Nat.beq n n_law18_lives || Nat.beq n n_law19_lives || Nat.beq n n_law20_lives || Nat.beq n n_slices_Sorted_int
end Go.Proofs.YtlkfclgkinaibaaGreat

namespace Go.Proofs.YtlkfclgkinaibaaGreat
def SlIs (v : AV) (e es k : Nat) (d : Dat) (w : Bool) (cs : List Chunk) : Prop :=
  (v = .nilsl ∧ k = 0 ∧ d.len = 0 ∧ cs = []) ∨ (v = .esl ∧ k = 0 ∧ d.len = 0 ∧ cs = [] ∧ w = false) ∨
  (∃ id off cap D e' es' sf, v = .sl id off k cap ∧ cs = [.pt id (.row e' es' sf (!w) D)] ∧ D.take off (k * es) = some d ∧ k ≤ cap ∧ (w = true → off + cap * es ≤ D.len)) ∨
  (∃ id idx D, v = .ssl id idx es k ∧ cs = [.pt id (.row e es true false D)] ∧ D.take (idx * es) (k * es) = some d ∧ w = true ∧ (idx + k) * es = D.len)
theorem wrap_id {k : IntKind} {n : Int} (h1 : k.min ≤ n) (h2 : n ≤ k.max) : k.wrap n = n := by
  cases k <;> simp only [IntKind.min, IntKind.max, IntKind.signed, IntKind.bits, IntKind.wrap] at * <;> (simp at h1 h2 ⊢) <;> (try split) <;> omega
theorem wrap64 {n : Int} (h1 : -9223372036854775808 ≤ n) (h2 : n ≤ 9223372036854775807) : IntKind.i64.wrap n = n := wrap_id h1 h2
theorem d_add {a b : Int} {h : AHeap} (h1 : -9223372036854775808 ≤ a + b) (h2 : a + b ≤ 9223372036854775807) : Does (.bin .add) [.int .i64 a, .int .i64 b] h (.int .i64 (a + b)) h := ⟨rfl, by
  simp only [aop, binInt, ne_eq, not_true, if_false, Option.map_some, wrap64 h1 h2]⟩
theorem d_sub {a b : Int} {h : AHeap} (h1 : -9223372036854775808 ≤ a - b) (h2 : a - b ≤ 9223372036854775807) : Does (.bin .sub) [.int .i64 a, .int .i64 b] h (.int .i64 (a - b)) h := ⟨rfl, by
  simp only [aop, binInt, ne_eq, not_true, if_false, Option.map_some, wrap64 h1 h2]⟩
abbrev SlC (v : AV) (e es k : Nat) (d : Dat) (w : Bool) : Chunk := pk 10 v (SlIs v e es k d w)
section
variable {h : AHeap} {L R : List Chunk} {v : AV} {e es k : Nat} {d : Dat} {w : Bool}
theorem SlIs.len {cs : List Chunk} (x : SlIs v e es k d w cs) : sliceLen v = some k := by
  rcases x with ⟨rfl, rfl, _⟩ | ⟨rfl, rfl, _⟩ | ⟨id, off, cap, D, e', es', sf, rfl, _⟩ | ⟨id, idx, D, rfl, _⟩ <;> rfl
theorem SlIs.nj {cs : List Chunk} (x : SlIs v e es k d w cs) : v.notJunk = some v := by
  rcases x with ⟨rfl, _⟩ | ⟨rfl, _⟩ | ⟨id, off, cap, D, e', es', sf, rfl, _⟩ | ⟨id, idx, D, rfl, _⟩ <;> rfl
theorem d_lens {k : Nat} {v : AV} (hk : sliceLen v = some k) : Does .lens [v] h (.int .i64 k) h := ⟨rfl, by simp only [aop, hk]; rfl⟩
theorem St.slice {id n cap e' es' : Nat} {sf : Bool} {D : Dat} (st : St h (.pt id (.row e' es' sf false D) :: L)) (h1 : D.take 0 (n * es) = some d) (h2 : n ≤ cap) (h3 : cap * es ≤ D.len) : St h (SlC (.sl id 0 n cap) e es n d true :: L) :=
  St.pack (cs := [.pt id (.row e' es' sf false D)]) st (.inr (.inr (.inl ⟨id, 0, cap, D, e', es', sf, rfl, rfl, h1, h2, fun _ => by omega⟩)))
end
end Go.Proofs.YtlkfclgkinaibaaGreat

namespace Go.Proofs.YtlkfclgkinaibaaGreat
theorem d_indexa {h : AHeap} {n es id off : Nat} {kk : IntKind} {i : Int} (h0 : 0 ≤ i) (h1 : i < n) : Does (.indexa n es) [.ptr id off, .int kk i] h (.ptr id (off + i.toNat * es)) h := ⟨rfl, by
  simp only [aop]; rw [if_pos ⟨h0, h1⟩]⟩
theorem Sbs {P : Prop} (h : P := by repeat (first | exact trivial | refine ⟨by first | rfl | assumption, ?_⟩)) : P := h
theorem Njs {P : Prop} (h : P := by repeat (first | exact trivial | refine ⟨by first | rfl | assumption, ?_⟩)) : P := h
inductive KI where
  | code (c : ACode)
  | ins (is : List AIn)
  | dis (ds : List DI)
  | ag (rs : List (Nat × AIn))
  | blk (id : Nat)
  | lp (J : Env → AHeap → Prop)
mutual
def okSame : AV → Bool
  | .bool _ => true
  | .int _ _ => true
  | .ptr _ _ => true
  | .nilptr => true
  | .sl _ _ _ _ => true
  | .ssl _ _ _ _ => true
  | .nilsl => true
  | .esl => true
  | .map _ => true
  | .nilmap => true
  | .func _ a b => okSameL a && okSameL b
  | .nilfunc => true
  | .yield _ => true
  | .agg a => okSameL a
  | .bytes _ _ => true
  | .tuple a => okSameL a
  | _ => false
def okSameL : List AV → Bool
  | [] => true
  | a :: l => okSame a && okSameL l
end
mutual
theorem same_self : ∀ (v : AV), okSame v = true → AV.same v v = true := by
  intro v h
  cases v with
  | func f a b =>
    simp only [okSame, Bool.and_eq_true] at h
    simp only [AV.same, beq_self_eq_true, Bool.and_eq_true]
    exact ⟨⟨trivial, same_selfL _ h.1⟩, same_selfL _ h.2⟩
  | agg a =>
    simp only [okSame] at h
    simp only [AV.same]
    exact same_selfL _ h
  | tuple a =>
    simp only [okSame] at h
    simp only [AV.same]
    exact same_selfL _ h
  | _ => simp [okSame, AV.same] at h ⊢
theorem same_selfL : ∀ (v : List AV), okSameL v = true → AV.sameL v v = true := by
  intro v h
  cases v with
  | nil => simp [AV.sameL]
  | cons a l =>
    simp only [okSameL, Bool.and_eq_true] at h
    simp only [AV.sameL, Bool.and_eq_true]
    exact ⟨same_self a h.1, same_selfL l h.2⟩
end
inductive Ag (s : Env) (h : AHeap) : List (Nat × AIn) → Prop where
  | nil : Ag s h []
  | ld {j t : Nat} {os : List Opd} {rs : List (Nat × AIn)} {id off e es : Nat} {soft ro' : Bool} {D : Dat} {v : AV} {L R : List Chunk} : evalLS s os = some [.ptr id off] → look s t = some v → St h L → Take L (.pt id (.row e es soft ro' D)) R → D.get off = some v → okSame v = true → Ag s h rs →
      Ag s h ((j, ⟨some t, .load1, os, none⟩) :: rs)
  | ldn {j t n : Nat} {os : List Opd} {rs : List (Nat × AIn)} {id off e es : Nat} {soft ro' : Bool} {D : Dat} {v : AV} {L R : List Chunk} : evalLS s os = some [.ptr id off] → look s t = some v → St h L → Take L (.pt id (.row e es soft ro' D)) R → D.sub off n = some v → okSame v = true → Ag s h rs →
      Ag s h ((j, ⟨some t, .loadn n, os, none⟩) :: rs)
  | gd {j : Nat} {d : Option Nat} {op : AOp} {os : List Opd} {g : Nat × Bool} {b : Bool} {rs : List (Nat × AIn)} : wantS s (some g) = some b → Ag s h (bif b then (j, ⟨d, op, os, none⟩) :: rs else rs) → Ag s h ((j, ⟨d, op, os, some g⟩) :: rs)
  | dz {j t : Nat} {op : AOp} {os : List Opd} {rs : List (Nat × AIn)} {vs : List AV} {v : AV} : evalLS s os = some vs → look s t = some v → Does op vs h v h → okSame v = true → Ag s h rs → Ag s h ((j, ⟨some t, op, os, none⟩) :: rs)
theorem Ag.ok {s : Env} {h : AHeap} {rs : List (Nat × AIn)} (a : Ag s h rs) : Again s h rs := by
  induction a with
  | nil => trivial
  | ld h1 h2 h3 h4 h5 h6 _ ih => exact ⟨.inr ⟨rfl, _, _, h, h1, (d_load1 (h3.get' h4) h5).run, fun t' e => (by cases e; exact h2), same_self _ h6⟩, ih⟩
  | ldn h1 h2 h3 h4 h5 h6 _ ih => exact ⟨.inr ⟨rfl, _, _, h, h1, (d_loadn (h3.get' h4) h5).run, fun t' e => (by cases e; exact h2), same_self _ h6⟩, ih⟩
  | dz h1 h2 h3 h4 _ ih => exact ⟨.inr ⟨rfl, _, _, h, h1, h3.run, fun t' e => (by cases e; exact h2), same_self _ h4⟩, ih⟩
  | @gd _ _ _ _ _ b _ h1 _ ih =>
    cases b with
    | false => exact ⟨.inl h1, ih⟩
    | true =>
      obtain ⟨h2, h3⟩ := ih
      refine ⟨?_, h3⟩
      rcases h2 with h2 | ⟨_, h2⟩
      · cases h2
      · exact .inr ⟨h1, h2⟩
structure Pk (c : Bool) (a b v : AV) : Prop where
  is : (bif c then a else b) = v
theorem Pk.t {c : Bool} {a b : AV} (h : c = true := by first | rfl | assumption | exact d_t (by omega) | exact q_t (by omega) | exact nq_t (by omega) | exact nd_t (by omega)) : Pk c a b a := ⟨by subst h; rfl⟩
theorem Pk.f {c : Bool} {a b : AV} (h : c = false := by first | rfl | assumption | exact d_f (by omega) | exact q_f (by omega) | exact nq_f (by omega) | exact nd_f (by omega)) : Pk c a b b := ⟨by subst h; rfl⟩
theorem Sd {P : Prop} (h : P := by first | (show (_ : Int) ≤ _; omega) | exact rfl | assumption | ((repeat (first | exact Take.here | apply Take.there)); done) | (show Ag _ _ _; (repeat (first | assumption | exact rfl | exact Ag.nil | exact Take.here | apply Take.there | (show Ag _ _ _; constructor))); done) | exact Pk.t | exact Pk.f) : P := h
section
variable (C : SemW) (ro : Option Nat) (N : Nat)
def postK : List KI → (AExit → List AV → AHeap → Prop) → AExit → List AV → AHeap → Prop
  | [], Q => Q
  | .code c :: k, Q => fun x e h => match x with
    | .normal => execW C ro c e h (postK k Q)
    | .exit i => postK k Q (.exit i) e h
    | .ret => postK k Q .ret e h
  | .ins is :: k, Q => fun x e h => match x with
    | .normal => runInsW C is e h (postK k Q .normal)
    | .exit i => postK k Q (.exit i) e h
    | .ret => postK k Q .ret e h
  | .dis ds :: k, Q => fun x e h => match x with
    | .normal => runDrawW C ds e h (postK k Q .normal)
    | .exit i => postK k Q (.exit i) e h
    | .ret => postK k Q .ret e h
  | .ag rs :: k, Q => fun x e h => match x with
    | .normal => rs.all (fun r => again r.2 e h) = true ∧ postK k Q .normal e h
    | .exit i => postK k Q (.exit i) e h
    | .ret => postK k Q .ret e h
  | .blk id :: k, Q => fun x e h => match x with
    | .normal => postK k Q .normal e h
    | .exit i => if i = id then postK k Q .normal e h else postK k Q (.exit i) e h
    | .ret => postK k Q .ret e h
  | .lp J :: k, Q => fun x e h => match x with
    | .normal => ∃ s, e.length = N ∧ Cov s e ∧ J s h
    | .exit i => postK k Q (.exit i) e h
    | .ret => postK k Q .ret e h
end
structure W (O : Nat → Option FSpec) (T : BT) (ro : Option Nat) (N : Nat) (Q : AExit → Env → AHeap → Prop) (x : AExit) (k : List KI) (s : Env) (h : AHeap) : Prop where
  run : ∀ e, e.length = N → Cov s e → postK (progI O T) ro N k (fun x e h => ∃ s', e.length = N ∧ Cov s' e ∧ Q x s' h) x e h
section
variable {O : Nat → Option FSpec} {T : BT} {ro : Option Nat} {N : Nat} {Q : AExit → Env → AHeap → Prop} {x : AExit} {k : List KI} {s : Env} {h : AHeap}
section ops
variable {d : Nat} {op : AOp} {os : List Opd} {g : Option (Nat × Bool)} {is : List AIn} {vs : List AV} {v : AV} {L R : List Chunk}
theorem W.dop (ha : evalLS s os = some vs) (ho : Does op vs h v h) (hj : v.notJunk = some v) (hd : Nat.blt d N = true) (w : W O T ro N Q .normal (.ins is :: k) ((d, v) :: s) h) : W O T ro N Q .normal (.ins (⟨some d, op, os, none⟩ :: is) :: k) s h :=
  ⟨fun e hl hc => by
    simp only [postK, runInsW]
    exact runIn_eff hc rfl ha (ho.do (w.run _ (by simpa [setDst] using hl) (hc.set (by rw [hl]; exact blt_of hd) hj)))⟩
theorem W.eff {K : AV → AHeap → Prop} (ho : Eff (progI O T) op vs h K) (ha : evalLS s os = some vs) (hd : Nat.blt d N = true) (w : ∀ v h', K v h' → v.notJunk = some v ∧ W O T ro N Q .normal (.ins is :: k) ((d, v) :: s) h') : W O T ro N Q .normal (.ins (⟨some d, op, os, none⟩ :: is) :: k) s h :=
  ⟨fun e hl hc => by
    simp only [postK, runInsW]
    exact runIn_eff hc rfl ha (doOpW_mono (fun _ _ _ _ x => x) progI_mono (fun v h1 q => (w v h1 q).2.run _ (by simpa [setDst] using hl) (hc.set (by rw [hl]; exact blt_of hd) (w v h1 q).1)) ho.run)⟩
theorem W.eff0 {K : AV → AHeap → Prop} (ho : Eff (progI O T) op vs h K) (ha : evalLS s os = some vs) (w : ∀ v h', K v h' → W O T ro N Q .normal (.ins is :: k) s h') : W O T ro N Q .normal (.ins (⟨none, op, os, none⟩ :: is) :: k) s h :=
  ⟨fun e hl hc => by
    simp only [postK, runInsW]
    exact runIn_eff hc rfl ha (doOpW_mono (fun _ _ _ _ x => x) progI_mono (fun v h1 q => (w v h1 q).run _ hl hc) ho.run)⟩
end ops
end
inductive Stp (O : Nat → Option FSpec) (T : BT) (ro : Option Nat) (N : Nat) (Q : AExit → Env → AHeap → Prop) : AExit → List KI → Env → AHeap → Prop where
  | done {x : AExit} {s : Env} {h : AHeap} : Q x s h → Stp O T ro N Q x [] s h
  | seq {k : List KI} {s : Env} {h : AHeap} {a b : ACode} : W O T ro N Q .normal (.code a :: .code b :: k) s h → Stp O T ro N Q .normal (.code (.seq a b) :: k) s h
  | region {k : List KI} {s : Env} {h : AHeap} {is : List AIn} : W O T ro N Q .normal (.ins is :: k) s h → Stp O T ro N Q .normal (.code (.region is) :: k) s h
  | draw1 {k : List KI} {s : Env} {h : AHeap} {ds : List DI} : W O T ro N Q .normal (.dis ds :: k) s h → Stp O T ro N Q .normal (.code (.draw [ds]) :: k) s h
  | block {k : List KI} {s : Env} {h : AHeap} {id : Nat} {b : ACode} : W O T ro N Q .normal (.code b :: .blk id :: k) s h → Stp O T ro N Q .normal (.code (.block id b) :: k) s h
  | blk {k : List KI} {s : Env} {h : AHeap} {id : Nat} : W O T ro N Q .normal k s h → Stp O T ro N Q .normal (.blk id :: k) s h
  | cond {k : List KI} {s : Env} {h : AHeap} {o : Opd} {q : Bool} {a b : ACode} : evalS s o = some (.bool q) → W O T ro N Q .normal (.code (bif q then a else b) :: k) s h → Stp O T ro N Q .normal (.code (.cond o a b) :: k) s h
  | skip {k : List KI} {s : Env} {h : AHeap} : W O T ro N Q .normal k s h → Stp O T ro N Q .normal (.code .skip :: k) s h
  | ret {k : List KI} {s : Env} {h : AHeap} : W O T ro N Q .ret k s h → Stp O T ro N Q .normal (.code .ret :: k) s h
  | exit {k : List KI} {s : Env} {h : AHeap} {id : Nat} : W O T ro N Q (.exit id) k s h → Stp O T ro N Q .normal (.code (.exit id) :: k) s h
  | rcode {k : List KI} {s : Env} {h : AHeap} {c : ACode} : W O T ro N Q .ret k s h → Stp O T ro N Q .ret (.code c :: k) s h
  | rblk {k : List KI} {s : Env} {h : AHeap} {id : Nat} : W O T ro N Q .ret k s h → Stp O T ro N Q .ret (.blk id :: k) s h
  | rlp {k : List KI} {s : Env} {h : AHeap} {J : Env → AHeap → Prop} : W O T ro N Q .ret k s h → Stp O T ro N Q .ret (.lp J :: k) s h
  | xcode {k : List KI} {s : Env} {h : AHeap} {c : ACode} {i : Nat} : W O T ro N Q (.exit i) k s h → Stp O T ro N Q (.exit i) (.code c :: k) s h
  | xblk {k : List KI} {s : Env} {h : AHeap} {i id : Nat} : W O T ro N Q (bif Nat.beq i id then .normal else .exit i) k s h → Stp O T ro N Q (.exit i) (.blk id :: k) s h
  | xlp {k : List KI} {s : Env} {h : AHeap} {i : Nat} {J : Env → AHeap → Prop} : W O T ro N Q (.exit i) k s h → Stp O T ro N Q (.exit i) (.lp J :: k) s h
  | lp {k : List KI} {s : Env} {h : AHeap} {J : Env → AHeap → Prop} : J s h → Stp O T ro N Q .normal (.lp J :: k) s h
  | inil {k : List KI} {s : Env} {h : AHeap} : W O T ro N Q .normal k s h → Stp O T ro N Q .normal (.ins [] :: k) s h
  | dnil {k : List KI} {s : Env} {h : AHeap} : W O T ro N Q .normal k s h → Stp O T ro N Q .normal (.dis [] :: k) s h
  | dcons {k : List KI} {s : Env} {h : AHeap} {j : Nat} {i : AIn} {rs : List (Nat × AIn)} {fin : Bool} {ds : List DI} : W O T ro N Q .normal (.ins [i] :: .ag rs :: .dis ds :: k) s h → Stp O T ro N Q .normal (.dis (⟨j, i, rs, fin⟩ :: ds) :: k) s h
  | ag {k : List KI} {s : Env} {h : AHeap} {rs : List (Nat × AIn)} : Ag s h rs → W O T ro N Q .normal k s h → Stp O T ro N Q .normal (.ag rs :: k) s h
  | guard {k : List KI} {s : Env} {h : AHeap} {d : Option Nat} {op : AOp} {os : List Opd} {g : Nat × Bool} {b : Bool} {is : List AIn} : wantS s (some g) = some b → W O T ro N Q .normal (.ins ((bif b then ⟨d, op, os, none⟩ else ⟨d, .mv, [.lit (.tuple [])], none⟩) :: is) :: k) s h → Stp O T ro N Q .normal (.ins (⟨d, op, os, some g⟩ :: is) :: k) s h
  | mv {k : List KI} {s : Env} {h : AHeap} {d : Nat} {os : List Opd} {is : List AIn} {v : AV} : evalLS s os = some [v] → AV.notJunk v = some v → Nat.blt d N = true → W O T ro N Q .normal (.ins is :: k) ((d, v) :: s) h → Stp O T ro N Q .normal (.ins (⟨some d, .mv, os, none⟩ :: is) :: k) s h
  | load1 {k : List KI} {s : Env} {h : AHeap} {d : Nat} {os : List Opd} {is : List AIn} {id off e es : Nat} {soft ro' : Bool} {D : Dat} {L R : List Chunk} {v : AV} : evalLS s os = some [.ptr id off] → St h L → Take L (.pt id (.row e es soft ro' D)) R → D.get off = some v → AV.notJunk v = some v → Nat.blt d N = true → W O T ro N Q .normal (.ins is :: k) ((d, v) :: s) h → Stp O T ro N Q .normal (.ins (⟨some d, .load1, os, none⟩ :: is) :: k) s h
  | loadn {k : List KI} {s : Env} {h : AHeap} {d : Nat} {os : List Opd} {is : List AIn} {id off e es : Nat} {soft ro' : Bool} {D : Dat} {L R : List Chunk} {v : AV} {n : Nat} : evalLS s os = some [.ptr id off] → St h L → Take L (.pt id (.row e es soft ro' D)) R → D.sub off n = some v → AV.notJunk v = some v → Nat.blt d N = true → W O T ro N Q .normal (.ins is :: k) ((d, v) :: s) h → Stp O T ro N Q .normal (.ins (⟨some d, (.loadn n), os, none⟩ :: is) :: k) s h
  | pick {k : List KI} {s : Env} {h : AHeap} {d : Nat} {os : List Opd} {is : List AIn} {c : Bool} {a b v : AV} : evalLS s os = some [.bool c, a, b] → Pk c a b v → AV.notJunk v = some v → Nat.blt d N = true → W O T ro N Q .normal (.ins is :: k) ((d, v) :: s) h → Stp O T ro N Q .normal (.ins (⟨some d, .pick, os, none⟩ :: is) :: k) s h
  | lens {k : List KI} {s : Env} {h : AHeap} {d : Nat} {os : List Opd} {is : List AIn} {v : AV} {n : Nat} : evalLS s os = some [v] → sliceLen v = some n → AV.notJunk (.int .i64 n) = some (.int .i64 n) → Nat.blt d N = true → W O T ro N Q .normal (.ins is :: k) ((d, (.int .i64 n)) :: s) h → Stp O T ro N Q .normal (.ins (⟨some d, .lens, os, none⟩ :: is) :: k) s h
  | add {k : List KI} {s : Env} {h : AHeap} {d : Nat} {os : List Opd} {is : List AIn} {a b : Int} : evalLS s os = some [.int .i64 a, .int .i64 b] → -9223372036854775808 ≤ a + b → a + b ≤ 9223372036854775807 → AV.notJunk (.int .i64 (a + b)) = some (.int .i64 (a + b)) → Nat.blt d N = true → W O T ro N Q .normal (.ins is :: k) ((d, (.int .i64 (a + b))) :: s) h → Stp O T ro N Q .normal (.ins (⟨some d, (.bin .add), os, none⟩ :: is) :: k) s h
  | sub {k : List KI} {s : Env} {h : AHeap} {d : Nat} {os : List Opd} {is : List AIn} {a b : Int} : evalLS s os = some [.int .i64 a, .int .i64 b] → -9223372036854775808 ≤ a - b → a - b ≤ 9223372036854775807 → AV.notJunk (.int .i64 (a - b)) = some (.int .i64 (a - b)) → Nat.blt d N = true → W O T ro N Q .normal (.ins is :: k) ((d, (.int .i64 (a - b))) :: s) h → Stp O T ro N Q .normal (.ins (⟨some d, (.bin .sub), os, none⟩ :: is) :: k) s h
  | indexa {k : List KI} {s : Env} {h : AHeap} {d : Nat} {os : List Opd} {is : List AIn} {n es id off : Nat} {kk : IntKind} {i : Int} : evalLS s os = some [.ptr id off, .int kk i] → 0 ≤ i → i < n → AV.notJunk (.ptr id (off + i.toNat * es)) = some (.ptr id (off + i.toNat * es)) → Nat.blt d N = true → W O T ro N Q .normal (.ins is :: k) ((d, (.ptr id (off + i.toNat * es))) :: s) h → Stp O T ro N Q .normal (.ins (⟨some d, (.indexa n es), os, none⟩ :: is) :: k) s h
  | nilCheck {k : List KI} {s : Env} {h : AHeap} {d : Nat} {os : List Opd} {is : List AIn} {vs : List AV} {v : AV} : evalLS s os = some vs → aop .nilCheck vs h = some (v, h) → AV.notJunk v = some v → Nat.blt d N = true → W O T ro N Q .normal (.ins is :: k) ((d, v) :: s) h → Stp O T ro N Q .normal (.ins (⟨some d, .nilCheck, os, none⟩ :: is) :: k) s h
  | eqvS {k : List KI} {s : Env} {h : AHeap} {d : Nat} {os : List Opd} {is : List AIn} {vs : List AV} {v : AV} {n : Bool} {q : Sc} : evalLS s os = some vs → aop (.eqv n (.scal q)) vs h = some (v, h) → AV.notJunk v = some v → Nat.blt d N = true → W O T ro N Q .normal (.ins is :: k) ((d, v) :: s) h → Stp O T ro N Q .normal (.ins (⟨some d, (.eqv n (.scal q)), os, none⟩ :: is) :: k) s h
  | eqvP {k : List KI} {s : Env} {h : AHeap} {d : Nat} {os : List Opd} {is : List AIn} {vs : List AV} {v : AV} {n : Bool} : evalLS s os = some vs → aop (.eqv n .ptr) vs h = some (v, h) → AV.notJunk v = some v → Nat.blt d N = true → W O T ro N Q .normal (.ins is :: k) ((d, v) :: s) h → Stp O T ro N Q .normal (.ins (⟨some d, (.eqv n .ptr), os, none⟩ :: is) :: k) s h
  | eqvL {k : List KI} {s : Env} {h : AHeap} {d : Nat} {os : List Opd} {is : List AIn} {vs : List AV} {v : AV} {n : Bool} : evalLS s os = some vs → aop (.eqv n .slice) vs h = some (v, h) → AV.notJunk v = some v → Nat.blt d N = true → W O T ro N Q .normal (.ins is :: k) ((d, v) :: s) h → Stp O T ro N Q .normal (.ins (⟨some d, (.eqv n .slice), os, none⟩ :: is) :: k) s h
  | eqvM {k : List KI} {s : Env} {h : AHeap} {d : Nat} {os : List Opd} {is : List AIn} {vs : List AV} {v : AV} {n : Bool} : evalLS s os = some vs → aop (.eqv n .map) vs h = some (v, h) → AV.notJunk v = some v → Nat.blt d N = true → W O T ro N Q .normal (.ins is :: k) ((d, v) :: s) h → Stp O T ro N Q .normal (.ins (⟨some d, (.eqv n .map), os, none⟩ :: is) :: k) s h
  | eqvF {k : List KI} {s : Env} {h : AHeap} {d : Nat} {os : List Opd} {is : List AIn} {vs : List AV} {v : AV} {n : Bool} : evalLS s os = some vs → aop (.eqv n .func) vs h = some (v, h) → AV.notJunk v = some v → Nat.blt d N = true → W O T ro N Q .normal (.ins is :: k) ((d, v) :: s) h → Stp O T ro N Q .normal (.ins (⟨some d, (.eqv n .func), os, none⟩ :: is) :: k) s h
  | eqvA {k : List KI} {s : Env} {h : AHeap} {d : Nat} {os : List Opd} {is : List AIn} {vs : List AV} {v : AV} {n : Bool} {q : List Sc} : evalLS s os = some vs → aop (.eqv n (.flat q)) vs h = some (v, h) → AV.notJunk v = some v → Nat.blt d N = true → W O T ro N Q .normal (.ins is :: k) ((d, v) :: s) h → Stp O T ro N Q .normal (.ins (⟨some d, (.eqv n (.flat q)), os, none⟩ :: is) :: k) s h
  | un {k : List KI} {s : Env} {h : AHeap} {d : Nat} {os : List Opd} {is : List AIn} {vs : List AV} {v : AV} {u : UnOp} : evalLS s os = some vs → aop (.un u) vs h = some (v, h) → AV.notJunk v = some v → Nat.blt d N = true → W O T ro N Q .normal (.ins is :: k) ((d, v) :: s) h → Stp O T ro N Q .normal (.ins (⟨some d, (.un u), os, none⟩ :: is) :: k) s h
  | conv {k : List KI} {s : Env} {h : AHeap} {d : Nat} {os : List Opd} {is : List AIn} {vs : List AV} {v : AV} {q : IntKind} : evalLS s os = some vs → aop (.conv q) vs h = some (v, h) → AV.notJunk v = some v → Nat.blt d N = true → W O T ro N Q .normal (.ins is :: k) ((d, v) :: s) h → Stp O T ro N Q .normal (.ins (⟨some d, (.conv q), os, none⟩ :: is) :: k) s h
  | sl2arr {k : List KI} {s : Env} {h : AHeap} {d : Nat} {os : List Opd} {is : List AIn} {vs : List AV} {v : AV} {n : Nat} : evalLS s os = some vs → aop (.sl2arr n) vs h = some (v, h) → AV.notJunk v = some v → Nat.blt d N = true → W O T ro N Q .normal (.ins is :: k) ((d, v) :: s) h → Stp O T ro N Q .normal (.ins (⟨some d, (.sl2arr n), os, none⟩ :: is) :: k) s h
  | mkfunc {k : List KI} {s : Env} {h : AHeap} {d : Nat} {os : List Opd} {is : List AIn} {vs : List AV} {v : AV} {f n : Nat} : evalLS s os = some vs → aop (.mkfunc f n) vs h = some (v, h) → AV.notJunk v = some v → Nat.blt d N = true → W O T ro N Q .normal (.ins is :: k) ((d, v) :: s) h → Stp O T ro N Q .normal (.ins (⟨some d, (.mkfunc f n), os, none⟩ :: is) :: k) s h
  | slice {k : List KI} {s : Env} {h : AHeap} {d : Nat} {os : List Opd} {is : List AIn} {vs : List AV} {v : AV} {es : Nat} {a b c : Bool} : evalLS s os = some vs → aop (.slice es a b c) vs h = some (v, h) → AV.notJunk v = some v → Nat.blt d N = true → W O T ro N Q .normal (.ins is :: k) ((d, v) :: s) h → Stp O T ro N Q .normal (.ins (⟨some d, (.slice es a b c), os, none⟩ :: is) :: k) s h
  | slicea {k : List KI} {s : Env} {h : AHeap} {d : Nat} {os : List Opd} {is : List AIn} {vs : List AV} {v : AV} {n es : Nat} {a b c : Bool} : evalLS s os = some vs → aop (.slicea n es a b c) vs h = some (v, h) → AV.notJunk v = some v → Nat.blt d N = true → W O T ro N Q .normal (.ins is :: k) ((d, v) :: s) h → Stp O T ro N Q .normal (.ins (⟨some d, (.slicea n es a b c), os, none⟩ :: is) :: k) s h
  | fieldAddr {k : List KI} {s : Env} {h : AHeap} {d : Nat} {os : List Opd} {is : List AIn} {vs : List AV} {v : AV} {n : Nat} : evalLS s os = some vs → aop (.fieldAddr n) vs h = some (v, h) → AV.notJunk v = some v → Nat.blt d N = true → W O T ro N Q .normal (.ins is :: k) ((d, v) :: s) h → Stp O T ro N Q .normal (.ins (⟨some d, (.fieldAddr n), os, none⟩ :: is) :: k) s h
  | field {k : List KI} {s : Env} {h : AHeap} {d : Nat} {os : List Opd} {is : List AIn} {vs : List AV} {v : AV} {a b : Nat} {c : Bool} : evalLS s os = some vs → aop (.field a b c) vs h = some (v, h) → AV.notJunk v = some v → Nat.blt d N = true → W O T ro N Q .normal (.ins is :: k) ((d, v) :: s) h → Stp O T ro N Q .normal (.ins (⟨some d, (.field a b c), os, none⟩ :: is) :: k) s h
  | indexv {k : List KI} {s : Env} {h : AHeap} {d : Nat} {os : List Opd} {is : List AIn} {vs : List AV} {v : AV} {a b : Nat} {c : Bool} : evalLS s os = some vs → aop (.indexv a b c) vs h = some (v, h) → AV.notJunk v = some v → Nat.blt d N = true → W O T ro N Q .normal (.ins is :: k) ((d, v) :: s) h → Stp O T ro N Q .normal (.ins (⟨some d, (.indexv a b c), os, none⟩ :: is) :: k) s h
  | extract {k : List KI} {s : Env} {h : AHeap} {d : Nat} {os : List Opd} {is : List AIn} {vs : List AV} {v : AV} {i : Nat} : evalLS s os = some vs → aop (.extract i) vs h = some (v, h) → AV.notJunk v = some v → Nat.blt d N = true → W O T ro N Q .normal (.ins is :: k) ((d, v) :: s) h → Stp O T ro N Q .normal (.ins (⟨some d, (.extract i), os, none⟩ :: is) :: k) s h
  | lenc {k : List KI} {s : Env} {h : AHeap} {d : Nat} {os : List Opd} {is : List AIn} {vs : List AV} {v : AV} {n : Nat} : evalLS s os = some vs → aop (.lenc n) vs h = some (v, h) → AV.notJunk v = some v → Nat.blt d N = true → W O T ro N Q .normal (.ins is :: k) ((d, v) :: s) h → Stp O T ro N Q .normal (.ins (⟨some d, (.lenc n), os, none⟩ :: is) :: k) s h
  | cap {k : List KI} {s : Env} {h : AHeap} {d : Nat} {os : List Opd} {is : List AIn} {vs : List AV} {v : AV} : evalLS s os = some vs → aop .cap vs h = some (v, h) → AV.notJunk v = some v → Nat.blt d N = true → W O T ro N Q .normal (.ins is :: k) ((d, v) :: s) h → Stp O T ro N Q .normal (.ins (⟨some d, .cap, os, none⟩ :: is) :: k) s h
  | lenstr {k : List KI} {s : Env} {h : AHeap} {d : Nat} {os : List Opd} {is : List AIn} {vs : List AV} {v : AV} : evalLS s os = some vs → aop .lenstr vs h = some (v, h) → AV.notJunk v = some v → Nat.blt d N = true → W O T ro N Q .normal (.ins is :: k) ((d, v) :: s) h → Stp O T ro N Q .normal (.ins (⟨some d, .lenstr, os, none⟩ :: is) :: k) s h
  | min {k : List KI} {s : Env} {h : AHeap} {d : Nat} {os : List Opd} {is : List AIn} {vs : List AV} {v : AV} : evalLS s os = some vs → aop .min vs h = some (v, h) → AV.notJunk v = some v → Nat.blt d N = true → W O T ro N Q .normal (.ins is :: k) ((d, v) :: s) h → Stp O T ro N Q .normal (.ins (⟨some d, .min, os, none⟩ :: is) :: k) s h
  | max {k : List KI} {s : Env} {h : AHeap} {d : Nat} {os : List Opd} {is : List AIn} {vs : List AV} {v : AV} : evalLS s os = some vs → aop .max vs h = some (v, h) → AV.notJunk v = some v → Nat.blt d N = true → W O T ro N Q .normal (.ins is :: k) ((d, v) :: s) h → Stp O T ro N Q .normal (.ins (⟨some d, .max, os, none⟩ :: is) :: k) s h
  | build {k : List KI} {s : Env} {h : AHeap} {d : Nat} {os : List Opd} {is : List AIn} {vs : List AV} {v : AV} {z : AV} {ps : List (Nat × Nat)} : evalLS s os = some vs → aop (.build z ps) vs h = some (v, h) → AV.notJunk v = some v → Nat.blt d N = true → W O T ro N Q .normal (.ins is :: k) ((d, v) :: s) h → Stp O T ro N Q .normal (.ins (⟨some d, (.build z ps), os, none⟩ :: is) :: k) s h
  | lss {k : List KI} {s : Env} {h : AHeap} {d : Nat} {os : List Opd} {is : List AIn} {vs : List AV} {v : AV} : evalLS s os = some vs → aop (.bin .lss) vs h = some (v, h) → AV.notJunk v = some v → Nat.blt d N = true → W O T ro N Q .normal (.ins is :: k) ((d, v) :: s) h → Stp O T ro N Q .normal (.ins (⟨some d, (.bin .lss), os, none⟩ :: is) :: k) s h
  | leq {k : List KI} {s : Env} {h : AHeap} {d : Nat} {os : List Opd} {is : List AIn} {vs : List AV} {v : AV} : evalLS s os = some vs → aop (.bin .leq) vs h = some (v, h) → AV.notJunk v = some v → Nat.blt d N = true → W O T ro N Q .normal (.ins is :: k) ((d, v) :: s) h → Stp O T ro N Q .normal (.ins (⟨some d, (.bin .leq), os, none⟩ :: is) :: k) s h
  | gtr {k : List KI} {s : Env} {h : AHeap} {d : Nat} {os : List Opd} {is : List AIn} {vs : List AV} {v : AV} : evalLS s os = some vs → aop (.bin .gtr) vs h = some (v, h) → AV.notJunk v = some v → Nat.blt d N = true → W O T ro N Q .normal (.ins is :: k) ((d, v) :: s) h → Stp O T ro N Q .normal (.ins (⟨some d, (.bin .gtr), os, none⟩ :: is) :: k) s h
  | geq {k : List KI} {s : Env} {h : AHeap} {d : Nat} {os : List Opd} {is : List AIn} {vs : List AV} {v : AV} : evalLS s os = some vs → aop (.bin .geq) vs h = some (v, h) → AV.notJunk v = some v → Nat.blt d N = true → W O T ro N Q .normal (.ins is :: k) ((d, v) :: s) h → Stp O T ro N Q .normal (.ins (⟨some d, (.bin .geq), os, none⟩ :: is) :: k) s h
  | eql {k : List KI} {s : Env} {h : AHeap} {d : Nat} {os : List Opd} {is : List AIn} {vs : List AV} {v : AV} : evalLS s os = some vs → aop (.bin .eql) vs h = some (v, h) → AV.notJunk v = some v → Nat.blt d N = true → W O T ro N Q .normal (.ins is :: k) ((d, v) :: s) h → Stp O T ro N Q .normal (.ins (⟨some d, (.bin .eql), os, none⟩ :: is) :: k) s h
  | neq {k : List KI} {s : Env} {h : AHeap} {d : Nat} {os : List Opd} {is : List AIn} {vs : List AV} {v : AV} : evalLS s os = some vs → aop (.bin .neq) vs h = some (v, h) → AV.notJunk v = some v → Nat.blt d N = true → W O T ro N Q .normal (.ins is :: k) ((d, v) :: s) h → Stp O T ro N Q .normal (.ins (⟨some d, (.bin .neq), os, none⟩ :: is) :: k) s h
  | mul {k : List KI} {s : Env} {h : AHeap} {d : Nat} {os : List Opd} {is : List AIn} {vs : List AV} {v : AV} : evalLS s os = some vs → aop (.bin .mul) vs h = some (v, h) → AV.notJunk v = some v → Nat.blt d N = true → W O T ro N Q .normal (.ins is :: k) ((d, v) :: s) h → Stp O T ro N Q .normal (.ins (⟨some d, (.bin .mul), os, none⟩ :: is) :: k) s h
  | quo {k : List KI} {s : Env} {h : AHeap} {d : Nat} {os : List Opd} {is : List AIn} {vs : List AV} {v : AV} : evalLS s os = some vs → aop (.bin .quo) vs h = some (v, h) → AV.notJunk v = some v → Nat.blt d N = true → W O T ro N Q .normal (.ins is :: k) ((d, v) :: s) h → Stp O T ro N Q .normal (.ins (⟨some d, (.bin .quo), os, none⟩ :: is) :: k) s h
  | rem {k : List KI} {s : Env} {h : AHeap} {d : Nat} {os : List Opd} {is : List AIn} {vs : List AV} {v : AV} : evalLS s os = some vs → aop (.bin .rem) vs h = some (v, h) → AV.notJunk v = some v → Nat.blt d N = true → W O T ro N Q .normal (.ins is :: k) ((d, v) :: s) h → Stp O T ro N Q .normal (.ins (⟨some d, (.bin .rem), os, none⟩ :: is) :: k) s h
  | band {k : List KI} {s : Env} {h : AHeap} {d : Nat} {os : List Opd} {is : List AIn} {vs : List AV} {v : AV} : evalLS s os = some vs → aop (.bin .and) vs h = some (v, h) → AV.notJunk v = some v → Nat.blt d N = true → W O T ro N Q .normal (.ins is :: k) ((d, v) :: s) h → Stp O T ro N Q .normal (.ins (⟨some d, (.bin .and), os, none⟩ :: is) :: k) s h
  | bor {k : List KI} {s : Env} {h : AHeap} {d : Nat} {os : List Opd} {is : List AIn} {vs : List AV} {v : AV} : evalLS s os = some vs → aop (.bin .or) vs h = some (v, h) → AV.notJunk v = some v → Nat.blt d N = true → W O T ro N Q .normal (.ins is :: k) ((d, v) :: s) h → Stp O T ro N Q .normal (.ins (⟨some d, (.bin .or), os, none⟩ :: is) :: k) s h
  | shl {k : List KI} {s : Env} {h : AHeap} {d : Nat} {os : List Opd} {is : List AIn} {vs : List AV} {v : AV} : evalLS s os = some vs → aop (.bin .shl) vs h = some (v, h) → AV.notJunk v = some v → Nat.blt d N = true → W O T ro N Q .normal (.ins is :: k) ((d, v) :: s) h → Stp O T ro N Q .normal (.ins (⟨some d, (.bin .shl), os, none⟩ :: is) :: k) s h
  | shr {k : List KI} {s : Env} {h : AHeap} {d : Nat} {os : List Opd} {is : List AIn} {vs : List AV} {v : AV} : evalLS s os = some vs → aop (.bin .shr) vs h = some (v, h) → AV.notJunk v = some v → Nat.blt d N = true → W O T ro N Q .normal (.ins is :: k) ((d, v) :: s) h → Stp O T ro N Q .normal (.ins (⟨some d, (.bin .shr), os, none⟩ :: is) :: k) s h
  | bandn {k : List KI} {s : Env} {h : AHeap} {d : Nat} {os : List Opd} {is : List AIn} {vs : List AV} {v : AV} : evalLS s os = some vs → aop (.bin .andNot) vs h = some (v, h) → AV.notJunk v = some v → Nat.blt d N = true → W O T ro N Q .normal (.ins is :: k) ((d, v) :: s) h → Stp O T ro N Q .normal (.ins (⟨some d, (.bin .andNot), os, none⟩ :: is) :: k) s h
  | alloc {k : List KI} {s : Env} {h : AHeap} {d : Nat} {os : List Opd} {is : List AIn} {L : List Chunk} {e es : Nat} {z : Dat} : evalLS s os = some [] → St h L → z.len = es → Nat.blt 0 es = true → Nat.blt d N = true → (∀ p h', St h' (.pt p (.row e es false false z) :: L) → W O T ro N Q .normal (.ins is :: k) ((d, .ptr p 0) :: s) h') → Stp O T ro N Q .normal (.ins (⟨some d, (.alloc e es z), os, none⟩ :: is) :: k) s h
  | box {k : List KI} {s : Env} {h : AHeap} {d : Nat} {os : List Opd} {is : List AIn} {L : List Chunk} {e es : Nat} {v : AV} : evalLS s os = some [v] → St h L → v.dat.len = es → Nat.blt 0 es = true → Nat.blt d N = true → (∀ p h', St h' (.pt p (.row e es false false v.dat) :: L) → W O T ro N Q .normal (.ins is :: k) ((d, .ptr p 0) :: s) h') → Stp O T ro N Q .normal (.ins (⟨some d, (.box e es), os, none⟩ :: is) :: k) s h
  | bslice {k : List KI} {s : Env} {h : AHeap} {d : Nat} {os : List Opd} {is : List AIn} {L : List Chunk} {e es len : Nat} {z dd : Dat} {parts : List Nat} {args : List AV} : evalLS s os = some args → St h L → fills (parts.map fun i => (i * es, es)) args (z.rep len) = some dd → dd.len = len * es → Nat.blt 0 es = true → Nat.blt d N = true → (∀ p h', St h' (.pt p (.row e es false false dd) :: L) → W O T ro N Q .normal (.ins is :: k) ((d, .sl p 0 len len) :: s) h') → Stp O T ro N Q .normal (.ins (⟨some d, (.bslice e es len z parts), os, none⟩ :: is) :: k) s h
  | store {k : List KI} {s : Env} {h : AHeap} {os : List Opd} {is : List AIn} {L R : List Chunk} {id off e es n : Nat} {soft : Bool} {D D' : Dat} {v : AV} : evalLS s os = some [.ptr id off, v] → St h L → Take L (.pt id (.row e es soft false D)) R → v.dat.len = n → Nat.blt 0 n = true → D.put off v.dat = some D' → (∀ (_ : Unit) h', St h' (.pt id (.row e es soft false D') :: R) → W O T ro N Q .normal (.ins is :: k) s h') → Stp O T ro N Q .normal (.ins (⟨none, .store n, os, none⟩ :: is) :: k) s h
  | skip0 {k : List KI} {s : Env} {h : AHeap} {os : List Opd} {is : List AIn} {v : AV} : evalLS s os = some [v] → W O T ro N Q .normal (.ins is :: k) s h → Stp O T ro N Q .normal (.ins (⟨none, .mv, os, none⟩ :: is) :: k) s h
section
variable {O : Nat → Option FSpec} {T : BT} {ro : Option Nat} {N : Nat} {Q : AExit → Env → AHeap → Prop} {x : AExit} {k : List KI} {s : Env} {h : AHeap} {L R : List Chunk}
theorem W.of (p : Stp O T ro N Q x k s h) : W O T ro N Q x k s h := by
  cases p with
  | done q => exact ⟨fun e hl hc => ⟨_, hl, hc, q⟩⟩
  | seq w => exact ⟨fun e hl hc => by
      refine execW_mono (fun _ _ _ _ x => x) progI_mono (fun y e h q => ?_) (w.run e hl hc)
      cases y <;> exact q⟩
  | region w => exact ⟨fun e hl hc => w.run e hl hc⟩
  | draw1 w => exact ⟨fun e hl hc ds hd => by rw [List.mem_singleton.1 hd]; exact runDrawW_mono (fun _ _ _ _ x => x) progI_mono (fun _ _ q => ⟨_, _, Ren.refl _ _ _, q⟩) (w.run e hl hc)⟩
  | block w => exact ⟨fun e hl hc => by
      refine execW_mono (fun _ _ _ _ x => x) progI_mono (fun y e h q => ?_) (w.run e hl hc)
      cases y <;> exact q⟩
  | blk w => exact ⟨fun e hl hc => w.run e hl hc⟩
  | cond ho w => exact ⟨fun e hl hc => by
      have := w.run e hl hc
      simp only [postK, execW, hc.eval ho] at this ⊢
      rename_i q _ _
      cases q <;> exact this⟩
  | skip w => exact ⟨fun e hl hc => w.run e hl hc⟩
  | ret w => exact ⟨fun e hl hc => w.run e hl hc⟩
  | exit w => exact ⟨fun e hl hc => w.run e hl hc⟩
  | rcode w => exact ⟨fun e hl hc => w.run e hl hc⟩
  | rblk w => exact ⟨fun e hl hc => w.run e hl hc⟩
  | rlp w => exact ⟨fun e hl hc => w.run e hl hc⟩
  | xcode w => exact ⟨fun e hl hc => w.run e hl hc⟩
  | xblk w => exact ⟨fun e hl hc => by
      have := w.run e hl hc
      simp only [postK]
      rename_i i id
      cases hb : Nat.beq i id with
      | true => rw [hb] at this; rw [if_pos (Nat.eq_of_beq_eq_true hb)]; exact this
      | false => rw [hb] at this; rw [if_neg (Nat.ne_of_beq_eq_false hb)]; exact this⟩
  | xlp w => exact ⟨fun e hl hc => w.run e hl hc⟩
  | lp j => exact ⟨fun e hl hc => ⟨_, hl, hc, j⟩⟩
  | inil w => exact ⟨fun e hl hc => w.run e hl hc⟩
  | dnil w => exact ⟨fun e hl hc => w.run e hl hc⟩
  | dcons w => exact ⟨fun e hl hc => w.run e hl hc⟩
  | ag a w => exact ⟨fun e hl hc => ⟨again_ok hc a.ok, w.run e hl hc⟩⟩
  | guard hw w => exact ⟨fun e hl hc => by
      have := w.run e hl hc
      simp only [postK, runInsW, runInW, hc.want hw] at this ⊢
      rename_i b _
      cases b with
      | true => exact this
      | false => simpa only [cond_false, wantedA, evalL, Opd.eval, doOpW, aop] using this⟩
  | mv ha  hj hd w => exact W.dop ha (⟨rfl, rfl⟩) hj hd w
  | load1 ha p0 p1 p2 hj hd w => exact W.dop ha (d_load1 (p0.get' p1) p2) hj hd w
  | loadn ha p0 p1 p2 hj hd w => exact W.dop ha (d_loadn (p0.get' p1) p2) hj hd w
  | pick ha p0 hj hd w => exact W.dop ha (⟨rfl, by obtain ⟨rfl⟩ := p0; cases ‹Bool› <;> rfl⟩) hj hd w
  | lens ha p0 hj hd w => exact W.dop ha (d_lens p0) hj hd w
  | add ha p0 p1 hj hd w => exact W.dop ha (d_add p0 p1) hj hd w
  | sub ha p0 p1 hj hd w => exact W.dop ha (d_sub p0 p1) hj hd w
  | indexa ha p0 p1 hj hd w => exact W.dop ha (d_indexa p0 p1) hj hd w
  | nilCheck ha p0 hj hd w => exact W.dop ha (⟨rfl, p0⟩) hj hd w
  | eqvS ha p0 hj hd w => exact W.dop ha (⟨rfl, p0⟩) hj hd w
  | eqvP ha p0 hj hd w => exact W.dop ha (⟨rfl, p0⟩) hj hd w
  | eqvL ha p0 hj hd w => exact W.dop ha (⟨rfl, p0⟩) hj hd w
  | eqvM ha p0 hj hd w => exact W.dop ha (⟨rfl, p0⟩) hj hd w
  | eqvF ha p0 hj hd w => exact W.dop ha (⟨rfl, p0⟩) hj hd w
  | eqvA ha p0 hj hd w => exact W.dop ha (⟨rfl, p0⟩) hj hd w
  | un ha p0 hj hd w => exact W.dop ha (⟨rfl, p0⟩) hj hd w
  | conv ha p0 hj hd w => exact W.dop ha (⟨rfl, p0⟩) hj hd w
  | sl2arr ha p0 hj hd w => exact W.dop ha (⟨rfl, p0⟩) hj hd w
  | mkfunc ha p0 hj hd w => exact W.dop ha (⟨rfl, p0⟩) hj hd w
  | slice ha p0 hj hd w => exact W.dop ha (⟨rfl, p0⟩) hj hd w
  | slicea ha p0 hj hd w => exact W.dop ha (⟨rfl, p0⟩) hj hd w
  | fieldAddr ha p0 hj hd w => exact W.dop ha (⟨rfl, p0⟩) hj hd w
  | field ha p0 hj hd w => exact W.dop ha (⟨rfl, p0⟩) hj hd w
  | indexv ha p0 hj hd w => exact W.dop ha (⟨rfl, p0⟩) hj hd w
  | extract ha p0 hj hd w => exact W.dop ha (⟨rfl, p0⟩) hj hd w
  | lenc ha p0 hj hd w => exact W.dop ha (⟨rfl, p0⟩) hj hd w
  | cap ha p0 hj hd w => exact W.dop ha (⟨rfl, p0⟩) hj hd w
  | lenstr ha p0 hj hd w => exact W.dop ha (⟨rfl, p0⟩) hj hd w
  | min ha p0 hj hd w => exact W.dop ha (⟨rfl, p0⟩) hj hd w
  | max ha p0 hj hd w => exact W.dop ha (⟨rfl, p0⟩) hj hd w
  | build ha p0 hj hd w => exact W.dop ha (⟨rfl, p0⟩) hj hd w
  | lss ha p0 hj hd w => exact W.dop ha (⟨rfl, p0⟩) hj hd w
  | leq ha p0 hj hd w => exact W.dop ha (⟨rfl, p0⟩) hj hd w
  | gtr ha p0 hj hd w => exact W.dop ha (⟨rfl, p0⟩) hj hd w
  | geq ha p0 hj hd w => exact W.dop ha (⟨rfl, p0⟩) hj hd w
  | eql ha p0 hj hd w => exact W.dop ha (⟨rfl, p0⟩) hj hd w
  | neq ha p0 hj hd w => exact W.dop ha (⟨rfl, p0⟩) hj hd w
  | mul ha p0 hj hd w => exact W.dop ha (⟨rfl, p0⟩) hj hd w
  | quo ha p0 hj hd w => exact W.dop ha (⟨rfl, p0⟩) hj hd w
  | rem ha p0 hj hd w => exact W.dop ha (⟨rfl, p0⟩) hj hd w
  | band ha p0 hj hd w => exact W.dop ha (⟨rfl, p0⟩) hj hd w
  | bor ha p0 hj hd w => exact W.dop ha (⟨rfl, p0⟩) hj hd w
  | shl ha p0 hj hd w => exact W.dop ha (⟨rfl, p0⟩) hj hd w
  | shr ha p0 hj hd w => exact W.dop ha (⟨rfl, p0⟩) hj hd w
  | bandn ha p0 hj hd w => exact W.dop ha (⟨rfl, p0⟩) hj hd w
  | alloc ha st p0 p1 hd w => exact W.eff (e_alloc st p0 p1) ha hd fun _ h' ⟨p, e, st'⟩ => by subst e; exact ⟨rfl, w p h' st'⟩
  | box ha st p0 p1 hd w => exact W.eff (e_box st p0 p1) ha hd fun _ h' ⟨p, e, st'⟩ => by subst e; exact ⟨rfl, w p h' st'⟩
  | bslice ha st p0 p1 p2 hd w => exact W.eff (e_bslice st p0 p1 p2) ha hd fun _ h' ⟨p, e, st'⟩ => by subst e; exact ⟨rfl, w p h' st'⟩
  | store ha st t h1 h2 h3 w => exact W.eff0 (e_store st t h1 h2 h3) ha fun _ h' ⟨_, st'⟩ => w () h' st'
  | skip0 ha w => exact W.eff0 (K := fun _ h' => h' = h) ⟨by simp only [doOpW, aop]⟩ ha fun _ h' e => by subst e; exact w
theorem be_t {q : Bool} (h : q = true) : (q == true) = true := by subst h; rfl
theorem be_f {q : Bool} (h : q = false) : (q == true) = false := by subst h; rfl
theorem bo_t {q : Bool} (h : q = false) : (q == false) = true := by subst h; rfl
theorem bo_f {q : Bool} (h : q = true) : (q == false) = false := by subst h; rfl
theorem W.ct {q : Bool} {a b : ACode} (w : W O T ro N Q .normal (.code a :: k) s h) (hq : q = true := by first | assumption | exact d_t (by omega) | exact q_t (by omega) | exact nq_t (by omega) | exact nd_t (by omega)) : W O T ro N Q .normal (.code (bif q then a else b) :: k) s h := by subst hq; exact w
theorem W.cf {q : Bool} {a b : ACode} (w : W O T ro N Q .normal (.code b :: k) s h) (hq : q = false := by first | assumption | exact d_f (by omega) | exact q_f (by omega) | exact nq_f (by omega) | exact nd_f (by omega)) : W O T ro N Q .normal (.code (bif q then a else b) :: k) s h := by subst hq; exact w
theorem W.gt {q : Bool} {a b : AIn} {is : List AIn} (w : W O T ro N Q .normal (.ins (a :: is) :: k) s h) (hq : q = true := by first | exact be_t (by first | assumption | exact d_t (by omega) | exact q_t (by omega) | exact nq_t (by omega) | exact nd_t (by omega)) | exact bo_t (by first | assumption | exact d_f (by omega) | exact q_f (by omega) | exact nq_f (by omega) | exact nd_f (by omega))) : W O T ro N Q .normal (.ins ((bif q then a else b) :: is) :: k) s h := by subst hq; exact w
theorem W.gf {q : Bool} {a b : AIn} {is : List AIn} (w : W O T ro N Q .normal (.ins (b :: is) :: k) s h) (hq : q = false := by first | exact be_f (by first | assumption | exact d_f (by omega) | exact q_f (by omega) | exact nq_f (by omega) | exact nd_f (by omega)) | exact bo_f (by first | assumption | exact d_t (by omega) | exact q_t (by omega) | exact nq_t (by omega) | exact nd_t (by omega))) : W O T ro N Q .normal (.ins ((bif q then a else b) :: is) :: k) s h := by subst hq; exact w
theorem W.call {d f : Nat} {os : List Opd} {is : List AIn} {first captured rest args : List AV} {Ps : List Chunk} {post : AV → List Chunk → Prop} (ha : evalLS s os = some (.func f first captured :: rest) := by rfl) (hx : first ++ rest ++ captured = args := by rfl) (hs : Spec (progI O T) (.f f) args Ps post)
    (st : St h L := by assumption) (hp : Pick L Ps R := by repeat (first | exact Take.here | exact Pick.nil | apply Pick.cons | apply Take.there)) (hd : Nat.blt d N = true := by rfl) (w : ∀ v Rs, post v Rs → ∀ h', St h' (Rs ++ R) → v.notJunk = some v ∧ W O T ro N Q .normal (.ins is :: k) ((d, v) :: s) h') : W O T ro N Q .normal (.ins (⟨some d, .callv, os, none⟩ :: is) :: k) s h :=
  W.eff (e_call progI_mono hs hx st hp) ha hd fun v h' ⟨Rs, y, z⟩ => w v Rs y h' z
theorem W.ef {d : Nat} {op : AOp} {os : List Opd} {is : List AIn} {vs : List AV} {K : AV → AHeap → Prop} (ha : evalLS s os = some vs := by rfl) (ho : Eff (progI O T) op vs h K) (hd : Nat.blt d N = true := by rfl) (w : ∀ v h', K v h' → v.notJunk = some v ∧ W O T ro N Q .normal (.ins is :: k) ((d, v) :: s) h') :
    W O T ro N Q .normal (.ins (⟨some d, op, os, none⟩ :: is) :: k) s h := W.eff ho ha hd w
theorem W.do {d : Nat} {op : AOp} {os : List Opd} {is : List AIn} {vs : List AV} {v : AV} (ha : evalLS s os = some vs := by rfl) (ho : Does op vs h v h) (hj : v.notJunk = some v := by first | rfl | assumption) (hd : Nat.blt d N = true := by rfl) (w : W O T ro N Q .normal (.ins is :: k) ((d, v) :: s) h) :
    W O T ro N Q .normal (.ins (⟨some d, op, os, none⟩ :: is) :: k) s h := W.dop ha ho hj hd w
theorem nj {v : AV} {A : Prop} (k : A) (hj : v.notJunk = some v := by first | rfl | assumption) : v.notJunk = some v ∧ A := ⟨hj, k⟩
theorem W.sub {s' : Env} (hs : Sub s' s) (w : W O T ro N Q x k s' h) : W O T ro N Q x k s h := ⟨fun e hl hc => w.run e hl (hc.sub hs)⟩
theorem W.loop {σ : Type} {b : ACode} (E : σ → Env) (G : σ → List Chunk) (φ : σ → Prop) (m : σ → Nat) (x0 : σ) (hm : m x0 < rounds) (hs : Sub (E x0) s) (st : St h (G x0)) (h0 : φ x0)
    (hb : ∀ y h, φ y → St h (G y) → W O T ro N Q .normal (.code b :: .lp (fun s' h' => ∃ z, m z < m y ∧ φ z ∧ Sub (E z) s' ∧ St h' (G z)) :: k) (E y) h) : W O T ro N Q .normal (.code (.loop b) :: k) s h := by
  have key : ∀ (n : Nat) (y : σ) (h : AHeap), m y < n → φ y → St h (G y) → ∀ e, e.length = N → Cov (E y) e → iterW (execW (progI O T) ro b) n e h (postK (progI O T) ro N k fun x e h => ∃ s', e.length = N ∧ Cov s' e ∧ Q x s' h) := by
    intro n
    induction n with
    | zero => intro y h hy; omega
    | succ n ih =>
      intro y h hy hφ st e hl hc
      refine execW_mono (fun _ _ _ _ x => x) progI_mono (fun z e' h' q => ?_) ((hb y h hφ st).run e hl hc)
      cases z with
      | normal =>
        obtain ⟨s', p1, p2, z, hz, hφ', hsub, st'⟩ := q
        exact ⟨h', fun _ => Less.refl h', ih z h' (by omega) hφ' st' e' p1 (p2.sub hsub)⟩
      | exit i => exact q
      | ret => exact q
  exact ⟨fun e hl hc => key rounds x0 h hm h0 st e hl (hc.sub hs)⟩
end
end Go.Proofs.YtlkfclgkinaibaaGreat

namespace Go.Proofs.YtlkfclgkinaibaaGreat
noncomputable def sel {α : Type} (b : Bool) (t e : α) : α := Bool.rec (motive := fun _ => α) e t b
theorem sel_true {α : Type} {t e : α} : sel true t e = t := rfl
theorem sel_false {α : Type} {t e : α} : sel false t e = e := rfl
theorem sel_eq {α : Type} {b : Bool} {t e : α} : sel b t e = if b = true then t else e := by cases b <;> rfl
noncomputable def trGet (v : Option AObj) (gl gr : Nat → Option AObj) (n : Nat) : Option AObj := sel (Nat.beq n 0) v (sel (Nat.beq (Nat.mod n 2) 1) (gl (Nat.div n 2)) (gr (Nat.sub (Nat.div n 2) 1)))
noncomputable def Tr.getK (t : Tr) : Nat → Option AObj := Tr.rec (motive := fun _ => Nat → Option AObj) (fun _ => none) (fun _ v _ gl gr => trGet v gl gr) t
theorem beqD {a b : Nat} : Nat.beq a b = decide (a = b) := by
  cases h : Nat.beq a b with
  | true => rw [Nat.eq_of_beq_eq_true h]; simp
  | false => have := Nat.ne_of_beq_eq_false h; simp [this]
theorem Tr.getK_eq : ∀ (t : Tr) (n : Nat), t.getK n = t.get n
  | .leaf, _ => rfl
  | .node l v r, n => by
    show trGet v l.getK r.getK n = _
    simp only [trGet, Tr.get, sel_eq, beqD, decide_eq_true_eq, Tr.getK_eq l, Tr.getK_eq r]
    rfl
noncomputable def trPut0 (p : Tr → Nat → Option AObj → Tr) (n : Nat) (o : Option AObj) : Tr := sel (Nat.beq n 0) (.node .leaf o .leaf) (sel (Nat.beq (Nat.mod n 2) 1) (.node (p .leaf (Nat.div n 2) o) none .leaf) (.node .leaf none (p .leaf (Nat.sub (Nat.div n 2) 1) o)))
noncomputable def trPut1 (p : Tr → Nat → Option AObj → Tr) (l : Tr) (v : Option AObj) (r : Tr) (n : Nat) (o : Option AObj) : Tr := sel (Nat.beq n 0) (.node l o r) (sel (Nat.beq (Nat.mod n 2) 1) (.node (p l (Nat.div n 2) o) v r) (.node l v (p r (Nat.sub (Nat.div n 2) 1) o)))
noncomputable def trPut (p : Tr → Nat → Option AObj → Tr) (t : Tr) : Nat → Option AObj → Tr := Tr.rec (motive := fun _ => Nat → Option AObj → Tr) (trPut0 p) (fun l v r _ _ => trPut1 p l v r) t
noncomputable def Tr.putK (f : Nat) : Tr → Nat → Option AObj → Tr := Nat.rec (motive := fun _ => Tr → Nat → Option AObj → Tr) (fun t _ _ => t) (fun _ p => trPut p) f
theorem Tr.putK_eq : ∀ (f : Nat) (t : Tr) (n : Nat) (o : Option AObj), Tr.putK f t n o = Tr.put f t n o
  | 0, _, _, _ => rfl
  | f + 1, .leaf, n, o => by
    show trPut0 (Tr.putK f) n o = _
    simp only [trPut0, Tr.put, sel_eq, beqD, decide_eq_true_eq, Tr.putK_eq f]
    rfl
  | f + 1, .node l v r, n, o => by
    show trPut1 (Tr.putK f) l v r n o = _
    simp only [trPut1, Tr.put, sel_eq, beqD, decide_eq_true_eq, Tr.putK_eq f]
    rfl
inductive Pth where
  | z
  | l (p : Pth)
  | r (p : Pth)
noncomputable def pthF (f : Nat) : Nat → Pth := Nat.rec (motive := fun _ => Nat → Pth) (fun _ => .z) (fun _ ih n => sel (Nat.beq n 0) .z (sel (Nat.beq (Nat.mod n 2) 1) (.l (ih (Nat.div n 2))) (.r (ih (Nat.sub (Nat.div n 2) 1))))) f
noncomputable def pth (n : Nat) : Pth := pthF (Nat.succ n) n
noncomputable def Tr.vl (t : Tr) : Option AObj := Tr.rec (motive := fun _ => Option AObj) none (fun _ v _ _ _ => v) t
noncomputable def Tr.lt (t : Tr) : Tr := Tr.rec (motive := fun _ => Tr) .leaf (fun l _ _ _ _ => l) t
noncomputable def Tr.rt (t : Tr) : Tr := Tr.rec (motive := fun _ => Tr) .leaf (fun _ _ r _ _ => r) t
noncomputable def getT (p : Pth) : Tr → Option AObj := Pth.rec (motive := fun _ => Tr → Option AObj) Tr.vl (fun _ ih t => ih (Tr.lt t)) (fun _ ih t => ih (Tr.rt t)) p
noncomputable def putTZ (o : Option AObj) (t : Tr) : Tr := Tr.rec (motive := fun _ => Tr) (.node .leaf o .leaf) (fun l _ r _ _ => .node l o r) t
noncomputable def putTL (ih : Option AObj → Tr → Tr) (o : Option AObj) (t : Tr) : Tr := Tr.rec (motive := fun _ => Tr) (.node (ih o .leaf) none .leaf) (fun l v r _ _ => .node (ih o l) v r) t
noncomputable def putTR (ih : Option AObj → Tr → Tr) (o : Option AObj) (t : Tr) : Tr := Tr.rec (motive := fun _ => Tr) (.node .leaf none (ih o .leaf)) (fun l v r _ _ => .node l v (ih o r)) t
noncomputable def putT (p : Pth) : Option AObj → Tr → Tr := Pth.rec (motive := fun _ => Option AObj → Tr → Tr) putTZ (fun _ ih => putTL ih) (fun _ ih => putTR ih) p
theorem getT_leaf : ∀ (p : Pth), getT p .leaf = none
  | .z => rfl
  | .l p => getT_leaf p
  | .r p => getT_leaf p
theorem getT_eq : ∀ (f n : Nat) (t : Tr), n < f → getT (pthF f n) t = t.get n
  | 0, n, t, h => by omega
  | f + 1, n, .leaf, h => by rw [getT_leaf]; rfl
  | f + 1, n, .node l v r, h => by
    show getT (sel (Nat.beq n 0) .z (sel (Nat.beq (n % 2) 1) (.l (pthF f (n / 2))) (.r (pthF f (n / 2 - 1))))) _ = _
    simp only [sel_eq, beqD, decide_eq_true_eq, Tr.get]
    split
    · rfl
    · split
      · exact getT_eq f _ l (by omega)
      · exact getT_eq f _ r (by omega)
theorem putT_eq {o : Option AObj} : ∀ (f g n : Nat) (t : Tr), n < f → n < g → putT (pthF f n) o t = Tr.put g t n o
  | 0, _, n, t, h, _ => by omega
  | _, 0, n, t, _, h => by omega
  | f + 1, g + 1, n, .leaf, h, h2 => by
    show putT (sel (Nat.beq n 0) .z (sel (Nat.beq (n % 2) 1) (.l (pthF f (n / 2))) (.r (pthF f (n / 2 - 1))))) _ _ = _
    simp only [sel_eq, beqD, decide_eq_true_eq, Tr.put]
    split
    · rfl
    · split
      · show Tr.node (putT (pthF f (n / 2)) o .leaf) none .leaf = _
        rw [putT_eq f g _ .leaf (by omega) (by omega)]
      · show Tr.node .leaf none (putT (pthF f (n / 2 - 1)) o .leaf) = _
        rw [putT_eq f g _ .leaf (by omega) (by omega)]
  | f + 1, g + 1, n, .node l v r, h, h2 => by
    show putT (sel (Nat.beq n 0) .z (sel (Nat.beq (n % 2) 1) (.l (pthF f (n / 2))) (.r (pthF f (n / 2 - 1))))) _ _ = _
    simp only [sel_eq, beqD, decide_eq_true_eq, Tr.put]
    split
    · rfl
    · split
      · show Tr.node (putT (pthF f (n / 2)) o l) v r = _
        rw [putT_eq f g _ l (by omega) (by omega)]
      · show Tr.node l v (putT (pthF f (n / 2 - 1)) o r) = _
        rw [putT_eq f g _ r (by omega) (by omega)]
noncomputable def AHeap.getK (h : AHeap) (id : Nat) : Option AObj := getT (pth id) h.objs
theorem AHeap.getK_eq : AHeap.getK = AHeap.get := funext fun _ => funext fun _ => getT_eq _ _ _ (Nat.lt_succ_self _)
noncomputable def AHeap.putK (h : AHeap) (id : Nat) (o : AObj) : AHeap := ⟨h.next, putT (pth id) (some o) h.objs⟩
theorem AHeap.putK_eq : AHeap.putK = AHeap.put := funext fun h => funext fun id => funext fun o => by
  show AHeap.mk _ _ = AHeap.mk _ _
  rw [pth, putT_eq _ (id + 2) _ _ (Nat.lt_succ_self _) (by omega)]
noncomputable def AHeap.killK (h : AHeap) (id : Nat) : AHeap := ⟨h.next, putT (pth id) none h.objs⟩
theorem AHeap.killK_eq : AHeap.killK = AHeap.kill := funext fun h => funext fun id => by
  show AHeap.mk _ _ = AHeap.mk _ _
  rw [pth, putT_eq _ (id + 2) _ _ (Nat.lt_succ_self _) (by omega)]
noncomputable def AHeap.newK (h : AHeap) (o : AObj) : AHeap := ⟨Nat.succ h.next, putT (pth h.next) (some o) h.objs⟩
theorem AHeap.newK_eq : AHeap.newK = AHeap.new := funext fun h => funext fun o => by
  show AHeap.mk _ _ = AHeap.mk _ _
  rw [pth, putT_eq _ (h.next + 2) _ _ (Nat.lt_succ_self _) (by omega)]
noncomputable def nthK (l : List AV) : Nat → Option AV := List.rec (motive := fun _ => Nat → Option AV) (fun _ => none) (fun a _ ih n => Nat.rec (motive := fun _ => Option AV) (some a) (fun m _ => ih m) n) l
theorem nthK_eq : ∀ (l : List AV) (n : Nat), nthK l n = l[n]?
  | [], _ => by simp [nthK]
  | a :: l, 0 => rfl
  | a :: l, n + 1 => by rw [List.getElem?_cons_succ, ← nthK_eq l n]; rfl
noncomputable def dropK (n : Nat) : List AV → Option (List AV) := Nat.rec (motive := fun _ => List AV → Option (List AV)) some (fun _ ih l => List.rec (motive := fun _ => Option (List AV)) none (fun _ t _ => ih t) l) n
theorem dropK_eq : ∀ (n : Nat) (l : List AV), dropK n l = if n ≤ l.length then some (l.drop n) else none
  | 0, l => rfl
  | n + 1, [] => by simp [dropK]
  | n + 1, a :: l => by
    show dropK n l = _
    rw [dropK_eq n l]; simp
noncomputable def consO (a : AV) (r : Option (List AV)) : Option (List AV) := Option.rec (motive := fun _ => Option (List AV)) none (fun l => some (a :: l)) r
noncomputable def takeK (n : Nat) : List AV → Option (List AV) := Nat.rec (motive := fun _ => List AV → Option (List AV)) (fun _ => some []) (fun _ ih l => List.rec (motive := fun _ => Option (List AV)) none (fun a t _ => consO a (ih t)) l) n
theorem takeK_eq : ∀ (n : Nat) (l : List AV), takeK n l = if n ≤ l.length then some (l.take n) else none
  | 0, l => rfl
  | n + 1, [] => by simp [takeK]
  | n + 1, a :: l => by
    show consO a (takeK n l) = _
    rw [takeK_eq n l]
    by_cases h : n ≤ l.length
    · rw [if_pos h, if_pos (by simpa using h)]; rfl
    · rw [if_neg h, if_neg (by simpa using h)]; rfl
noncomputable def overK (vs : List AV) : List AV → Option (List AV) := List.rec (motive := fun _ => List AV → Option (List AV)) some (fun v _ ih l => List.rec (motive := fun _ => Option (List AV)) none (fun _ t _ => consO v (ih t)) l) vs
theorem overK_eq : ∀ (vs l : List AV), overK vs l = if vs.length ≤ l.length then some (vs ++ l.drop vs.length) else none
  | [], l => by simp [overK]
  | v :: vs, [] => by simp [overK]
  | v :: vs, a :: l => by
    show consO v (overK vs l) = _
    rw [overK_eq vs l]
    by_cases h : vs.length ≤ l.length
    · rw [if_pos h, if_pos (by simpa using h)]; rfl
    · rw [if_neg h, if_neg (by simpa using h)]; rfl
noncomputable def putAtK (vs : List AV) (n : Nat) : List AV → Option (List AV) := Nat.rec (motive := fun _ => List AV → Option (List AV)) (overK vs) (fun _ ih l => List.rec (motive := fun _ => Option (List AV)) none (fun a t _ => consO a (ih t)) l) n
theorem putAtK_eq (vs : List AV) : ∀ (n : Nat) (l : List AV), putAtK vs n l = if n + vs.length ≤ l.length then some (l.take n ++ vs ++ l.drop (n + vs.length)) else none
  | 0, l => by
    show overK vs l = _
    rw [overK_eq]; simp
  | n + 1, [] => by
    rw [if_neg (by simp)]; rfl
  | n + 1, a :: l => by
    show consO a (putAtK vs n l) = _
    rw [putAtK_eq vs n l]
    by_cases h : n + vs.length ≤ l.length
    · rw [if_pos h, if_pos (by simp; omega)]
      simp [consO, show n + 1 + vs.length = (n + vs.length) + 1 by omega]
    · rw [if_neg h, if_neg (by simp; omega)]; rfl
noncomputable def Dat.getK (d : Dat) (i : Nat) : Option AV := Dat.rec (motive := fun _ => Option AV) (fun cs => nthK cs i) (fun len n => sel (Nat.blt i len) (some (.int .u8 (Int.ofNat (Nat.mod (Nat.shiftRight n (Nat.mul 8 i)) 256)))) none) d
theorem bltD {a b : Nat} : Nat.blt a b = decide (a < b) := by
  cases h : Nat.blt a b with
  | true => rw [Nat.blt_eq] at h; simp [h]
  | false => have : ¬ a < b := fun hc => by rw [← Nat.blt_eq] at hc; rw [hc] at h; cases h
             simp [this]
theorem Dat.getK_eq : Dat.getK = Dat.get := funext fun d => funext fun i => by
  cases d with
  | vals cs => exact nthK_eq _ _
  | bytes l n =>
    show sel (Nat.blt i l) _ none = _
    rw [sel_eq, bltD]
    simp only [decide_eq_true_eq]
    rfl
noncomputable def aggO (r : Option (List AV)) : Option AV := Option.rec (motive := fun _ => Option AV) none (fun l => some (.agg l)) r
noncomputable def bindO (r : Option (List AV)) (k : List AV → Option (List AV)) : Option (List AV) := Option.rec (motive := fun _ => Option (List AV)) none k r
noncomputable def Dat.subK (d : Dat) (off len : Nat) : Option AV := Dat.rec (motive := fun _ => Option AV) (fun cs => aggO (bindO (dropK off cs) (takeK len))) (fun l n => sel (Nat.ble (Nat.add off len) l) (some (.bytes len (bsub n off len))) none) d
theorem bleD {a b : Nat} : Nat.ble a b = decide (a ≤ b) := by
  cases h : Nat.ble a b with
  | true => have := Nat.le_of_ble_eq_true h; simp [this]
  | false => have : ¬ a ≤ b := fun hc => by rw [Nat.ble_eq_true_of_le hc] at h; cases h
             simp [this]
theorem dropTake {cs : List AV} {off len : Nat} : bindO (dropK off cs) (takeK len) = if off + len ≤ cs.length then some ((cs.drop off).take len) else none := by
  rw [dropK_eq]
  by_cases h : off ≤ cs.length
  · rw [if_pos h]
    show takeK len _ = _
    rw [takeK_eq, List.length_drop]
    by_cases h2 : off + len ≤ cs.length
    · rw [if_pos (by omega), if_pos h2]
    · rw [if_neg (by omega), if_neg h2]
  · rw [if_neg h, if_neg (by omega)]; rfl
theorem Dat.subK_eq : Dat.subK = Dat.sub := funext fun d => funext fun off => funext fun len => by
  cases d with
  | vals cs =>
    show aggO (bindO _ _) = _
    rw [dropTake]
    simp only [Dat.sub]
    split <;> rfl
  | bytes l n =>
    show sel (Nat.ble (off + len) l) _ none = _
    rw [sel_eq, bleD]
    simp only [decide_eq_true_eq]
    rfl
noncomputable def valsO (r : Option (List AV)) : Option Dat := Option.rec (motive := fun _ => Option Dat) none (fun l => some (.vals l)) r
noncomputable def Dat.takeK (d : Dat) (off len : Nat) : Option Dat := Dat.rec (motive := fun _ => Option Dat) (fun cs => valsO (bindO (dropK off cs) (Go.Proofs.YtlkfclgkinaibaaGreat.takeK len))) (fun l n => sel (Nat.ble (Nat.add off len) l) (some (.bytes len (bsub n off len))) none) d
theorem Dat.takeK_eq : Dat.takeK = Dat.take := funext fun d => funext fun off => funext fun len => by
  cases d with
  | vals cs =>
    show valsO (bindO _ _) = _
    rw [dropTake]
    simp only [Dat.take]
    split <;> rfl
  | bytes l n =>
    show sel (Nat.ble (off + len) l) _ none = _
    rw [sel_eq, bleD]
    simp only [decide_eq_true_eq]
    rfl
noncomputable def Dat.putK (d : Dat) (off : Nat) (v : Dat) : Option Dat := Dat.rec (motive := fun _ => Option Dat) (fun cs => Dat.rec (motive := fun _ => Option Dat) (fun vs => valsO (putAtK vs off cs)) (fun _ _ => Dat.put (.vals cs) off v) v) (fun l n => Dat.put (.bytes l n) off v) d
theorem Dat.putK_eq : Dat.putK = Dat.put := funext fun d => funext fun off => funext fun v => by
  cases d with
  | vals cs =>
    cases v with
    | vals vs =>
      show valsO (putAtK vs off cs) = _
      rw [putAtK_eq]
      simp only [Dat.put]
      split <;> rfl
    | bytes l n => rfl
  | bytes l n => rfl
noncomputable def Dat.partK (d : Dat) (off size : Nat) (agg : Bool) : Option AV := sel agg (d.subK off size) (d.getK off)
theorem Dat.partK_eq : Dat.partK = Dat.part := funext fun d => funext fun off => funext fun size => funext fun agg => by
  rw [Dat.partK, Dat.part, Dat.subK_eq, Dat.getK_eq, sel_eq]
noncomputable def limR (k : IntKind) : Nat := IntKind.rec (motive := fun _ => Nat) 128 32768 2147483648 9223372036854775808 256 65536 4294967296 18446744073709551616 k
noncomputable def sgnR (k : IntKind) : Bool := IntKind.rec (motive := fun _ => Bool) true true true true false false false false k
noncomputable def wrapK (k : IntKind) (n : Int) : Int := Int.rec (motive := fun _ => Int) (fun m => sel (Nat.blt m (limR k)) (Int.ofNat m) (k.wrap (Int.ofNat m))) (fun m => sel (sgnR k) (sel (Nat.blt m (limR k)) (Int.negSucc m) (k.wrap (Int.negSucc m))) (k.wrap (Int.negSucc m))) n
theorem wrap_fit {k : IntKind} {n : Int} (h1 : (if sgnR k = true then -(limR k : Int) else 0) ≤ n) (h2 : n < (limR k : Int)) : k.wrap n = n := by
  cases k <;> simp [limR, sgnR] at h1 h2 <;> simp [Go.IntKind.wrap, Go.IntKind.bits, Go.IntKind.signed] <;> omega
theorem wrapK_eq : wrapK = Go.IntKind.wrap := funext fun k => funext fun n => by
  cases n with
  | ofNat m =>
    show sel (Nat.blt m (limR k)) _ _ = _
    rw [sel_eq, bltD]
    split
    · rename_i h
      simp only [decide_eq_true_eq] at h
      refine (wrap_fit ?_ ?_).symm
      · split <;> simp only [Int.ofNat_eq_natCast] <;> omega
      · simp only [Int.ofNat_eq_natCast]; omega
    · rfl
  | negSucc m =>
    show sel (sgnR k) (sel (Nat.blt m (limR k)) _ _) _ = _
    rw [sel_eq, sel_eq, bltD]
    split
    · rename_i hs
      split
      · rename_i h
        simp only [decide_eq_true_eq] at h
        refine (wrap_fit ?_ ?_).symm
        · rw [if_pos hs]; omega
        · omega
      · rfl
    · rfl
noncomputable def ltK (a b : Int) : Bool := Int.rec (motive := fun _ => Bool) (fun m => Int.rec (motive := fun _ => Bool) (fun n => Nat.blt m n) (fun _ => false) b) (fun m => Int.rec (motive := fun _ => Bool) (fun _ => true) (fun n => Nat.blt n m) b) a
theorem ltK_eq {a b : Int} : ltK a b = decide (a < b) := by
  cases a with
  | ofNat m => cases b with
    | ofNat n => show Nat.blt m n = _; rw [bltD]; exact decide_eq_decide.2 ⟨fun h => Int.ofNat_lt.2 h, fun h => Int.ofNat_lt.1 h⟩
    | negSucc n => exact (decide_eq_false (by simp only [Int.ofNat_eq_natCast]; omega)).symm
  | negSucc m => cases b with
    | ofNat n => exact (decide_eq_true (by simp only [Int.ofNat_eq_natCast]; omega)).symm
    | negSucc n => show Nat.blt n m = _; rw [bltD]; exact decide_eq_decide.2 (by omega)
noncomputable def leK (a b : Int) : Bool := Int.rec (motive := fun _ => Bool) (fun m => Int.rec (motive := fun _ => Bool) (fun n => Nat.ble m n) (fun _ => false) b) (fun m => Int.rec (motive := fun _ => Bool) (fun _ => true) (fun n => Nat.ble n m) b) a
theorem leK_eq {a b : Int} : leK a b = decide (a ≤ b) := by
  cases a with
  | ofNat m => cases b with
    | ofNat n => show Nat.ble m n = _; rw [bleD]; exact decide_eq_decide.2 ⟨fun h => Int.ofNat_le.2 h, fun h => Int.ofNat_le.1 h⟩
    | negSucc n => exact (decide_eq_false (by simp only [Int.ofNat_eq_natCast]; omega)).symm
  | negSucc m => cases b with
    | ofNat n => exact (decide_eq_true (by simp only [Int.ofNat_eq_natCast]; omega)).symm
    | negSucc n => show Nat.ble n m = _; rw [bleD]; exact decide_eq_decide.2 (by omega)
noncomputable def eqK (a b : Int) : Bool := Int.rec (motive := fun _ => Bool) (fun m => Int.rec (motive := fun _ => Bool) (fun n => Nat.beq m n) (fun _ => false) b) (fun m => Int.rec (motive := fun _ => Bool) (fun _ => false) (fun n => Nat.beq m n) b) a
theorem eqK_eq {a b : Int} : eqK a b = (a == b) := by
  rw [show (a == b) = decide (a = b) from rfl]
  cases a with
  | ofNat m => cases b with
    | ofNat n => show Nat.beq m n = _; rw [beqD]; exact decide_eq_decide.2 ⟨fun h => congrArg _ h, fun h => Int.ofNat.inj h⟩
    | negSucc n => exact (decide_eq_false (by simp only [Int.ofNat_eq_natCast]; omega)).symm
  | negSucc m => cases b with
    | ofNat n => exact (decide_eq_false (by simp only [Int.ofNat_eq_natCast]; omega)).symm
    | negSucc n => show Nat.beq m n = _; rw [beqD]; exact decide_eq_decide.2 ⟨fun h => congrArg _ h, fun h => Int.negSucc.inj h⟩
noncomputable def kindNo (k : IntKind) : Nat := IntKind.rec (motive := fun _ => Nat) 0 1 2 3 4 5 6 7 k
theorem kindNo_eq {a b : IntKind} : Nat.beq (kindNo a) (kindNo b) = decide (a = b) := by cases a <;> cases b <;> rfl
noncomputable def binIntK (op : BinOp) (k : IntKind) (a : Int) (k' : IntKind) (b : Int) : Option AV :=
  BinOp.rec (motive := fun _ => Option AV)
    (sel (Nat.beq (kindNo k) (kindNo k')) (some (.int k (wrapK k (Int.add a b)))) none)
    (sel (Nat.beq (kindNo k) (kindNo k')) (some (.int k (wrapK k (Int.sub a b)))) none)
    (sel (Nat.beq (kindNo k) (kindNo k')) (some (.int k (wrapK k (Int.mul a b)))) none)
    (binInt .quo k a k' b) (binInt .rem k a k' b) (binInt .and k a k' b) (binInt .or k a k' b) (binInt .xor k a k' b) (binInt .shl k a k' b) (binInt .shr k a k' b) (binInt .andNot k a k' b)
    (sel (Nat.beq (kindNo k) (kindNo k')) (some (.bool (eqK a b))) none)
    (sel (Nat.beq (kindNo k) (kindNo k')) (some (.bool (Bool.not (eqK a b)))) none)
    (sel (Nat.beq (kindNo k) (kindNo k')) (some (.bool (ltK a b))) none)
    (sel (Nat.beq (kindNo k) (kindNo k')) (some (.bool (leK a b))) none)
    (sel (Nat.beq (kindNo k) (kindNo k')) (some (.bool (ltK b a))) none)
    (sel (Nat.beq (kindNo k) (kindNo k')) (some (.bool (leK b a))) none) op
theorem binIntK_eq {op : BinOp} {k k' : IntKind} {a b : Int} : binIntK op k a k' b = binInt op k a k' b := by
  cases op <;> simp only [binIntK, binInt, sel_eq, kindNo_eq, wrapK_eq, eqK_eq, ltK_eq, leK_eq, decide_eq_true_eq, ne_eq, ite_not] <;> rfl
end Go.Proofs.YtlkfclgkinaibaaGreat

namespace Go.Proofs.YtlkfclgkinaibaaGreat
structure HO where
  get : AHeap → Nat → Option AObj
  put : AHeap → Nat → AObj → AHeap
  new : AHeap → AObj → AHeap
  kill : AHeap → Nat → AHeap
  dget : Dat → Nat → Option AV
  dsub : Dat → Nat → Nat → Option AV
  dtake : Dat → Nat → Nat → Option Dat
  dput : Dat → Nat → Dat → Option Dat
  part : Dat → Nat → Nat → Bool → Option AV
  wrap : IntKind → Int → Int
  bin : BinOp → IntKind → Int → IntKind → Int → Option AV
noncomputable def hoD : HO := ⟨AHeap.get, AHeap.put, AHeap.new, AHeap.kill, Dat.get, Dat.sub, Dat.take, Dat.put, Dat.part, Go.IntKind.wrap, binInt⟩
noncomputable def hoK : HO := ⟨AHeap.getK, AHeap.putK, AHeap.newK, AHeap.killK, Dat.getK, Dat.subK, Dat.takeK, Dat.putK, Dat.partK, wrapK, binIntK⟩
theorem hoEq : hoK = hoD := by
  have e : binIntK = binInt := funext fun _ => funext fun _ => funext fun _ => funext fun _ => funext fun _ => binIntK_eq
  rw [hoK, hoD, AHeap.getK_eq, AHeap.putK_eq, AHeap.newK_eq, AHeap.killK_eq, Dat.getK_eq, Dat.subK_eq, Dat.takeK_eq, Dat.putK_eq, Dat.partK_eq, wrapK_eq, e]
noncomputable def newRowH (H : HO) (h : AHeap) (elem es : Nat) (soft : Bool) (d : Dat) : Option AHeap :=
  if 0 < es then some (H.new h (.row elem es soft false d)) else none
noncomputable def sliceDatH (H : HO) (h : AHeap) (es : Nat) (v : AV) : Option Dat :=
  match v with
  | .nilsl => some (.vals [])
  | .esl => some (.vals [])
  | .sl id off len _ => match H.get h id with
    | some (.row _ _ _ _ d) => H.dtake d off (len * es)
    | _ => none
  | .ssl id idx es' len => match H.get h id with
    | some (.row _ _ _ _ d) => if es' = es then H.dtake d (idx * es) (len * es) else none
    | _ => none
  | _ => none
noncomputable def appendToH (H : HO) (h : AHeap) (elem es bytes : Nat) (s : AV) (new : Dat) (k : Nat) : Option (AV × AHeap) :=
  if k = 0 then (match s with
    | .sl _ _ len cap => if len ≤ cap then some (s, h) else none
    | .ssl _ _ _ _ => some (s, h)
    | .nilsl => some (s, h)
    | .esl => some (s, h)
    | _ => none)
  else match s with
  | .nilsl =>
    if k * bytes ≤ 2 ^ 40 ∧ k ≤ 2 ^ 40 ∧ new.len = k * es then (newRowH H h elem es true new).map fun h' => (.ssl h.next 0 es k, h') else none
  | .sl id off len cap =>
    match H.get h id with
    | some (.row elem' es' soft ro d) =>
      if len + k ≤ cap then
        if ro then none else (H.dput d (off + len * es) new).map fun d' => (.sl id off (len + k) cap, H.put h id (.row elem' es' soft ro d'))
      else if (len + k) * bytes ≤ 2 ^ 40 ∧ len + k ≤ 2 ^ 40 ∧ new.len = k * es then
        (H.dtake d off (len * es)).bind fun old => (old.app new).bind fun all =>
          (newRowH H h elem es true all).map fun h' => (.ssl h.next 0 es (len + k), h')
      else none
    | _ => none
  | .ssl id idx es' len =>
    match H.get h id with
    | some (.row elem' es'' true false d) =>
      if es' = es ∧ es'' = es ∧ elem' = elem ∧ 0 < es then
        if (idx + len + k) * es ≤ d.len then
          (H.dput d ((idx + len) * es) new).map fun d' => (.ssl id idx es (len + k), H.put h id (.row elem' es'' true false d'))
        else if (idx + len) * es = d.len ∧ (len + k) * bytes ≤ 2 ^ 40 ∧ len + k ≤ 2 ^ 40 ∧ new.len = k * es then
          (H.dtake d (idx * es) (len * es)).bind fun old => (old.app new).bind fun all =>
            (newRowH H (H.kill h id) elem es true all).map fun h' => (.ssl h.next 0 es (len + k), h')
        else none
      else none
    | _ => none
  | _ => none
noncomputable def aop_mv (_H : HO)  (args : List AV) (h : AHeap) : Option (AV × AHeap) := match args with
    | [x] => some (x, h)
    | _ => none
noncomputable def aop_pick (_H : HO)  (args : List AV) (h : AHeap) : Option (AV × AHeap) := match args with
    | [.bool c, a, b] => some (if c then a else b, h)
    | _ => none
noncomputable def aop_alloc (H : HO) (elem : Nat) (es : Nat) (z : Dat) (args : List AV) (h : AHeap) : Option (AV × AHeap) := match args with
    | [] => if z.len = es then (newRowH H h elem es false z).map fun h' => (.ptr h.next 0, h') else none
    | _ => none
noncomputable def aop_box (H : HO) (elem : Nat) (es : Nat) (args : List AV) (h : AHeap) : Option (AV × AHeap) := match args with
    | [x] => if x.dat.len = es ∧ 0 < es then (newRowH H h elem es false x.dat).map fun h' => (.ptr h.next 0, h') else none
    | _ => none
noncomputable def aop_build (_H : HO) (z : AV) (parts : List (Nat × Nat)) (args : List AV) (h : AHeap) : Option (AV × AHeap) := (fills parts args z.dat).map fun d => (d.agg, h)
noncomputable def aop_bslice (H : HO) (elem : Nat) (es : Nat) (len : Nat) (z : Dat) (parts : List Nat) (args : List AV) (h : AHeap) : Option (AV × AHeap) :=
    (fills (parts.map fun i => (i * es, es)) args (z.rep len)).bind fun d =>
      if d.len = len * es then (newRowH H h elem es false d).map fun h' => (.sl h.next 0 len len, h') else none
noncomputable def aop_load1 (H : HO)  (args : List AV) (h : AHeap) : Option (AV × AHeap) := match args with
    | [.ptr id off] => match H.get h id with
      | some (.row _ _ _ _ d) => (H.dget d off).map (·, h)
      | _ => none
    | _ => none
noncomputable def aop_loadn (H : HO) (n : Nat) (args : List AV) (h : AHeap) : Option (AV × AHeap) := match args with
    | [.ptr id off] => match H.get h id with
      | some (.row _ _ _ _ d) => (H.dsub d off n).map (·, h)
      | _ => none
    | _ => none
noncomputable def aop_store (H : HO) (n : Nat) (args : List AV) (h : AHeap) : Option (AV × AHeap) := match args with
    | [.ptr id off, v] => match H.get h id with
      | some (.row e es soft false d) => if v.dat.len = n ∧ 0 < n then (H.dput d off v.dat).map fun d' => (.tuple [], H.put h id (.row e es soft false d')) else none
      | _ => none
    | _ => none
noncomputable def aop_nilCheck (_H : HO)  (args : List AV) (h : AHeap) : Option (AV × AHeap) := match args with
    | [x] => match x with
      | .ptr _ _ => some (x, h)
      | .func _ _ _ => some (x, h)
      | _ => none
    | _ => none
noncomputable def aop_bin (H : HO) (op : BinOp) (args : List AV) (h : AHeap) : Option (AV × AHeap) := match args with
    | [.int k a, .int k' b] => (H.bin op k a k' b).map (·, h)
    | _ => none
noncomputable def aop_eqv (_H : HO) (neg : Bool) (k : EqK) (args : List AV) (h : AHeap) : Option (AV × AHeap) := match args with
    | [a, b] => (avEq k a b).map fun r => (.bool (if neg then !r else r), h)
    | _ => none
noncomputable def aop_un (H : HO) (u : UnOp) (args : List AV) (h : AHeap) : Option (AV × AHeap) := match u, args with
    | .neg, [.int k n] => some (.int k (H.wrap k (0 - n)), h)
    | .not, [.bool b] => some (.bool !b, h)
    | _, _ => none
noncomputable def aop_conv (H : HO) (k : IntKind) (args : List AV) (h : AHeap) : Option (AV × AHeap) := match args with
    | [.int _ n] => some (.int k (H.wrap k n), h)
    | _ => none
noncomputable def aop_tostr (H : HO)  (args : List AV) (h : AHeap) : Option (AV × AHeap) := match args with
    | [x] => match sliceDatH H h 1 x with
      | some (.bytes l n) => some (.str (packStr l n), h)
      | some (.vals []) => some (.str ByteArray.empty, h)
      | _ => none
    | _ => none
noncomputable def aop_sl2arr (_H : HO) (n : Nat) (args : List AV) (h : AHeap) : Option (AV × AHeap) := match args with
    | [.sl id off len _] => if n ≤ len then some (.ptr id off, h) else none
    | [.ssl id idx es len] => if n ≤ len then some (.ptr id (idx * es), h) else none
    | _ => none
noncomputable def aop_mkfunc (_H : HO) (f : Nat) (nf : Nat) (args : List AV) (h : AHeap) : Option (AV × AHeap) := some (.func f (args.take nf) (args.drop nf), h)
noncomputable def aop_mkmap (H : HO)  (_args : List AV) (h : AHeap) : Option (AV × AHeap) := some (.map h.next, H.new h (.map [] 0))
noncomputable def aop_mkslice (H : HO) (elem : Nat) (es : Nat) (bytes : Nat) (z : Dat) (args : List AV) (h : AHeap) : Option (AV × AHeap) := match args with
    | [.int _ l, .int _ c] =>
      if 0 ≤ l ∧ l ≤ c ∧ c * bytes ≤ 2 ^ 40 ∧ c ≤ 2 ^ 40 ∧ z.len = es ∧ (z.rep c.toNat).len = c.toNat * es then
        (newRowH H h elem es false (z.rep c.toNat)).map fun h' => (.sl h.next 0 l.toNat c.toNat, h')
      else none
    | _ => none
noncomputable def aop_slice (_H : HO) (es : Nat) (lo : Bool) (hi : Bool) (mx : Bool) (args : List AV) (h : AHeap) : Option (AV × AHeap) := match args with
    | x :: args => match x with
      | .nilsl => (bounds3 0 0 lo hi mx args).map fun _ => (.nilsl, h)
      | .esl => if mx then none else (bounds3 0 0 lo hi mx args).map fun _ => (.esl, h)
      | .sl id off len cap => (bounds3 len cap lo hi mx args).map fun (l, r, m) => (.sl id (if m = l then off else off + l * es) (r - l) (m - l), h)
      | .ssl id idx es' len =>
        if es' = es then (match mx with
          | false => (bounds3 len len lo hi false args).bind fun (l, r, _) => if l < len ∨ l = 0 then some (.ssl id (idx + l) es (r - l), h) else some (.esl, h)
          | true => (bounds3 len len lo hi true args).map fun (l, r, m) => (.sl id (if m = l then idx * es else (idx + l) * es) (r - l) (m - l), h))
        else none
      | _ => none
    | _ => none
noncomputable def aop_slicea (_H : HO) (n : Nat) (es : Nat) (lo : Bool) (hi : Bool) (mx : Bool) (args : List AV) (h : AHeap) : Option (AV × AHeap) := match args with
    | .ptr id off :: args =>
      (bounds3 n n lo hi mx args).map fun (l, r, m) => (.sl id (if m = l then off else off + l * es) (r - l) (m - l), h)
    | _ => none
noncomputable def aop_fieldAddr (_H : HO) (o : Nat) (args : List AV) (h : AHeap) : Option (AV × AHeap) := match args with
    | [.ptr id off] => some (.ptr id (off + o), h)
    | _ => none
noncomputable def aop_field (H : HO) (off : Nat) (size : Nat) (agg : Bool) (args : List AV) (h : AHeap) : Option (AV × AHeap) := match args with
    | [x] => if x.isAgg then (H.part x.dat off size agg).map (·, h) else none
    | _ => none
noncomputable def aop_indexa (_H : HO) (len : Nat) (es : Nat) (args : List AV) (h : AHeap) : Option (AV × AHeap) := match args with
    | [.ptr id off, .int _ i] => if 0 ≤ i ∧ i < len then some (.ptr id (off + i.toNat * es), h) else none
    | _ => none
noncomputable def aop_indexs (_H : HO) (es : Nat) (args : List AV) (h : AHeap) : Option (AV × AHeap) := match args with
    | [.sl id off len _, .int _ i] => if 0 ≤ i ∧ i < len then some (.ptr id (off + i.toNat * es), h) else none
    | [.ssl id idx es' len, .int _ i] => if 0 ≤ i ∧ i < len ∧ es' = es then some (.ptr id ((idx + i.toNat) * es), h) else none
    | _ => none
noncomputable def aop_indexv (H : HO) (len : Nat) (es : Nat) (agg : Bool) (args : List AV) (h : AHeap) : Option (AV × AHeap) := match args with
    | [x, .int _ i] =>
      if 0 ≤ i ∧ i < len ∧ x.isAgg then (H.part x.dat (i.toNat * es) es agg).map (·, h) else none
    | _ => none
noncomputable def aop_indexstr (_H : HO)  (args : List AV) (h : AHeap) : Option (AV × AHeap) := match args with
    | [.str s, .int _ i] => if 0 ≤ i then (s[i.toNat]?).map fun b => (.int .u8 b.toNat, h) else none
    | _ => none
noncomputable def aop_lookup (H : HO) (k : EqK) (z : AV) (ok : Bool) (args : List AV) (h : AHeap) : Option (AV × AHeap) := match args with
    | [m, key] => if (avEq k key key).isSome = false then none else
      let back (v : AV) (is : Bool) : AV := if ok then .tuple [v, .bool is] else v
      match m with
      | .nilmap => some (back z false, h)
      | .map id => match H.get h id with
        | some (.map es _) => match findE k key es with
          | some (some i) => (es[i]?).map fun e => (back e.2.1 true, h)
          | some none => some (back z false, h)
          | none => none
        | _ => none
      | _ => none
    | _ => none
noncomputable def aop_mapput (H : HO) (k : EqK) (args : List AV) (h : AHeap) : Option (AV × AHeap) := match args with
    | [.map id, key, v] => if (avEq k key key).isSome = false then none else match H.get h id with
      | some (.map es clock) => (match findE k key es with
        | some (some i) => some (.tuple [], H.put h id (.map (es.modify i fun e => (key, v, e.2.2)) clock))
        | some none => some (.tuple [], H.put h id (.map (es ++ [(key, v, clock)]) (clock + 1)))
        | none => none)
      | _ => none
    | _ => none
noncomputable def aop_extract (_H : HO) (i : Nat) (args : List AV) (h : AHeap) : Option (AV × AHeap) := match args with
    | [.tuple vs] => (vs[i]?).map (·, h)
    | _ => none
noncomputable def aop_lens (_H : HO)  (args : List AV) (h : AHeap) : Option (AV × AHeap) := match args with
    | [x] => (sliceLen x).map fun n => (.int .i64 n, h)
    | _ => none
noncomputable def aop_lenc (_H : HO) (n : Nat) (args : List AV) (h : AHeap) : Option (AV × AHeap) := match args with
    | [_] => some (.int .i64 n, h)
    | _ => none
noncomputable def aop_lenstr (_H : HO)  (args : List AV) (h : AHeap) : Option (AV × AHeap) := match args with
    | [.str s] => some (.int .i64 s.size, h)
    | _ => none
noncomputable def aop_lenm (H : HO)  (args : List AV) (h : AHeap) : Option (AV × AHeap) := match args with
    | [.nilmap] => some (.int .i64 0, h)
    | [.map id] => match H.get h id with
      | some (.map es _) => some (.int .i64 es.length, h)
      | _ => none
    | _ => none
noncomputable def aop_append (H : HO) (elem : Nat) (es : Nat) (bytes : Nat) (_ : Dat) (args : List AV) (h : AHeap) : Option (AV × AHeap) := match args with
    | [s, x] => match sliceLen x, sliceDatH H h es x with
      | some k, some new => appendToH H h elem es bytes s new k
      | _, _ => none
    | _ => none
noncomputable def aop_appendz (H : HO) (elem : Nat) (es : Nat) (bytes : Nat) (z : Dat) (args : List AV) (h : AHeap) : Option (AV × AHeap) := match args with
    | [s, .int _ n] =>
      if 0 ≤ n ∧ n * bytes ≤ 2 ^ 40 ∧ n ≤ 2 ^ 40 ∧ (z.rep n.toNat).len = n.toNat * es then appendToH H h elem es bytes s (z.rep n.toNat) n.toNat else none
    | _ => none
noncomputable def aop_copy (H : HO) (es : Nat) (args : List AV) (h : AHeap) : Option (AV × AHeap) := match args with
    | [a, b] => match sliceLen a, sliceLen b with
      | some m, some n => if Nat.min n m = 0 then some (.int .i64 0, h) else
        (match sliceDatH H h es b, a with
        | some d, .sl id off _ _ => (H.dtake d 0 (Nat.min n m * es)).bind fun src => match H.get h id with
          | some (.row e es' soft false t) => (H.dput t off src).map fun t' => (.int .i64 (Nat.min n m), H.put h id (.row e es' soft false t'))
          | _ => none
        | some d, .ssl id idx es'' _ => (H.dtake d 0 (Nat.min n m * es)).bind fun src => match H.get h id with
          | some (.row e es' soft false t) => if es'' = es then (H.dput t (idx * es) src).map fun t' => (.int .i64 (Nat.min n m), H.put h id (.row e es' soft false t')) else none
          | _ => none
        | _, _ => none)
      | _, _ => none
    | _ => none
noncomputable def aop_delete (H : HO) (k : EqK) (args : List AV) (h : AHeap) : Option (AV × AHeap) := match args with
    | [m, key] => if (avEq k key key).isSome = false then none else match m with
      | .nilmap => some (.tuple [], h)
      | .map id => match H.get h id with
        | some (.map es clock) => (match findE k key es with
          | some (some i) => some (.tuple [], H.put h id (.map (es.eraseIdx i) clock))
          | some none => some (.tuple [], h)
          | none => none)
        | _ => none
      | _ => none
    | _ => none
noncomputable def aop_cap (_H : HO)  (args : List AV) (h : AHeap) : Option (AV × AHeap) := match args with
    | [.nilsl] => some (.int .i64 0, h)
    | [.sl _ _ _ cap] => some (.int .i64 cap, h)
    | _ => none
noncomputable def aop_clear (H : HO) (es : Nat) (z : Dat) (args : List AV) (h : AHeap) : Option (AV × AHeap) := match args with
    | [.nilsl] => some (.tuple [], h)
    | [.esl] => some (.tuple [], h)
    | [.sl id off len _] => if len = 0 then some (.tuple [], h) else match H.get h id with
      | some (.row e es' soft false t) => if (z.rep len).len = len * es then (H.dput t off (z.rep len)).map fun t' => (.tuple [], H.put h id (.row e es' soft false t')) else none
      | _ => none
    | [.ssl id idx es'' len] => if len = 0 then some (.tuple [], h) else match H.get h id with
      | some (.row e es' soft false t) => if es'' = es ∧ (z.rep len).len = len * es then (H.dput t (idx * es) (z.rep len)).map fun t' => (.tuple [], H.put h id (.row e es' soft false t')) else none
      | _ => none
    | _ => none
noncomputable def aop_range (H : HO)  (args : List AV) (h : AHeap) : Option (AV × AHeap) := match args with
    | [.nilmap] => some (.ptr h.next 0, H.new h (.iter none 0 [] 0))
    | [.map id] => match H.get h id with
      | some (.map _ clock) => some (.ptr h.next 0, H.new h (.iter (some id) clock [] clock))
      | _ => none
    | _ => none
noncomputable def aop_entry (H : HO)  (args : List AV) (h : AHeap) : Option (AV × AHeap) := match args with
    | [.ptr id 0] => match H.get h id with
      | some (.iter (some m) _ seen stepped) => match H.get h m with
        | some (.map es clock) => match seen.getLast? with
          | some stamp => if clock = stepped then (es.find? fun e => e.2.2 == stamp).map fun e => (.tuple [e.1, e.2.1], h) else none
          | none => none
        | _ => none
      | _ => none
    | _ => none
noncomputable def aop_min (_H : HO)  (args : List AV) (h : AHeap) : Option (AV × AHeap) := match args with
    | [.int k a, .int _ b] => some (.int k (if b < a then b else a), h)
    | _ => none
noncomputable def aop_max (_H : HO)  (args : List AV) (h : AHeap) : Option (AV × AHeap) := match args with
    | [.int k a, .int _ b] => some (.int k (if b > a then b else a), h)
    | _ => none
theorem aop_mv_eq  {args : List AV} {h : AHeap} : aop_mv hoK  args h = aop (.mv ) args h := by
  rw [hoEq]; rfl
theorem aop_pick_eq  {args : List AV} {h : AHeap} : aop_pick hoK  args h = aop (.pick ) args h := by
  rw [hoEq]; rfl
theorem aop_alloc_eq {x0 : Nat} {x1 : Nat} {x2 : Dat} {args : List AV} {h : AHeap} : aop_alloc hoK x0 x1 x2 args h = aop (.alloc x0 x1 x2) args h := by
  rw [hoEq]; rfl
theorem aop_box_eq {x0 : Nat} {x1 : Nat} {args : List AV} {h : AHeap} : aop_box hoK x0 x1 args h = aop (.box x0 x1) args h := by
  rw [hoEq]; rfl
theorem aop_build_eq {x0 : AV} {x1 : List (Nat × Nat)} {args : List AV} {h : AHeap} : aop_build hoK x0 x1 args h = aop (.build x0 x1) args h := by
  rw [hoEq]; rfl
theorem aop_bslice_eq {x0 : Nat} {x1 : Nat} {x2 : Nat} {x3 : Dat} {x4 : List Nat} {args : List AV} {h : AHeap} : aop_bslice hoK x0 x1 x2 x3 x4 args h = aop (.bslice x0 x1 x2 x3 x4) args h := by
  rw [hoEq]; rfl
theorem aop_load1_eq  {args : List AV} {h : AHeap} : aop_load1 hoK  args h = aop (.load1 ) args h := by
  rw [hoEq]; rfl
theorem aop_loadn_eq {x0 : Nat} {args : List AV} {h : AHeap} : aop_loadn hoK x0 args h = aop (.loadn x0) args h := by
  rw [hoEq]; rfl
theorem aop_store_eq {x0 : Nat} {args : List AV} {h : AHeap} : aop_store hoK x0 args h = aop (.store x0) args h := by
  rw [hoEq]; rfl
theorem aop_nilCheck_eq  {args : List AV} {h : AHeap} : aop_nilCheck hoK  args h = aop (.nilCheck ) args h := by
  rw [hoEq]; rfl
theorem aop_bin_eq {x0 : BinOp} {args : List AV} {h : AHeap} : aop_bin hoK x0 args h = aop (.bin x0) args h := by
  rw [hoEq]; rfl
theorem aop_eqv_eq {x0 : Bool} {x1 : EqK} {args : List AV} {h : AHeap} : aop_eqv hoK x0 x1 args h = aop (.eqv x0 x1) args h := by
  rw [hoEq]; rfl
theorem aop_un_eq {x0 : UnOp} {args : List AV} {h : AHeap} : aop_un hoK x0 args h = aop (.un x0) args h := by
  rw [hoEq]; rfl
theorem aop_conv_eq {x0 : IntKind} {args : List AV} {h : AHeap} : aop_conv hoK x0 args h = aop (.conv x0) args h := by
  rw [hoEq]; rfl
theorem aop_tostr_eq  {args : List AV} {h : AHeap} : aop_tostr hoK  args h = aop (.tostr ) args h := by
  rw [hoEq]; rfl
theorem aop_sl2arr_eq {x0 : Nat} {args : List AV} {h : AHeap} : aop_sl2arr hoK x0 args h = aop (.sl2arr x0) args h := by
  rw [hoEq]; rfl
theorem aop_mkfunc_eq {x0 : Nat} {x1 : Nat} {args : List AV} {h : AHeap} : aop_mkfunc hoK x0 x1 args h = aop (.mkfunc x0 x1) args h := by
  rw [hoEq]; rfl
theorem aop_mkmap_eq  {args : List AV} {h : AHeap} : aop_mkmap hoK  args h = aop (.mkmap ) args h := by
  rw [hoEq]; rfl
theorem aop_mkslice_eq {x0 : Nat} {x1 : Nat} {x2 : Nat} {x3 : Dat} {args : List AV} {h : AHeap} : aop_mkslice hoK x0 x1 x2 x3 args h = aop (.mkslice x0 x1 x2 x3) args h := by
  rw [hoEq]; rfl
theorem aop_slice_eq {x0 : Nat} {x1 : Bool} {x2 : Bool} {x3 : Bool} {args : List AV} {h : AHeap} : aop_slice hoK x0 x1 x2 x3 args h = aop (.slice x0 x1 x2 x3) args h := by
  rw [hoEq]; rfl
theorem aop_slicea_eq {x0 : Nat} {x1 : Nat} {x2 : Bool} {x3 : Bool} {x4 : Bool} {args : List AV} {h : AHeap} : aop_slicea hoK x0 x1 x2 x3 x4 args h = aop (.slicea x0 x1 x2 x3 x4) args h := by
  rw [hoEq]; rfl
theorem aop_fieldAddr_eq {x0 : Nat} {args : List AV} {h : AHeap} : aop_fieldAddr hoK x0 args h = aop (.fieldAddr x0) args h := by
  rw [hoEq]; rfl
theorem aop_field_eq {x0 : Nat} {x1 : Nat} {x2 : Bool} {args : List AV} {h : AHeap} : aop_field hoK x0 x1 x2 args h = aop (.field x0 x1 x2) args h := by
  rw [hoEq]; rfl
theorem aop_indexa_eq {x0 : Nat} {x1 : Nat} {args : List AV} {h : AHeap} : aop_indexa hoK x0 x1 args h = aop (.indexa x0 x1) args h := by
  rw [hoEq]; rfl
theorem aop_indexs_eq {x0 : Nat} {args : List AV} {h : AHeap} : aop_indexs hoK x0 args h = aop (.indexs x0) args h := by
  rw [hoEq]; rfl
theorem aop_indexv_eq {x0 : Nat} {x1 : Nat} {x2 : Bool} {args : List AV} {h : AHeap} : aop_indexv hoK x0 x1 x2 args h = aop (.indexv x0 x1 x2) args h := by
  rw [hoEq]; rfl
theorem aop_indexstr_eq  {args : List AV} {h : AHeap} : aop_indexstr hoK  args h = aop (.indexstr ) args h := by
  rw [hoEq]; rfl
theorem aop_lookup_eq {x0 : EqK} {x1 : AV} {x2 : Bool} {args : List AV} {h : AHeap} : aop_lookup hoK x0 x1 x2 args h = aop (.lookup x0 x1 x2) args h := by
  rw [hoEq]; rfl
theorem aop_mapput_eq {x0 : EqK} {args : List AV} {h : AHeap} : aop_mapput hoK x0 args h = aop (.mapput x0) args h := by
  rw [hoEq]; rfl
theorem aop_extract_eq {x0 : Nat} {args : List AV} {h : AHeap} : aop_extract hoK x0 args h = aop (.extract x0) args h := by
  rw [hoEq]; rfl
theorem aop_lens_eq  {args : List AV} {h : AHeap} : aop_lens hoK  args h = aop (.lens ) args h := by
  rw [hoEq]; rfl
theorem aop_lenc_eq {x0 : Nat} {args : List AV} {h : AHeap} : aop_lenc hoK x0 args h = aop (.lenc x0) args h := by
  rw [hoEq]; rfl
theorem aop_lenstr_eq  {args : List AV} {h : AHeap} : aop_lenstr hoK  args h = aop (.lenstr ) args h := by
  rw [hoEq]; rfl
theorem aop_lenm_eq  {args : List AV} {h : AHeap} : aop_lenm hoK  args h = aop (.lenm ) args h := by
  rw [hoEq]; rfl
theorem aop_append_eq {x0 : Nat} {x1 : Nat} {x2 : Nat} {x3 : Dat} {args : List AV} {h : AHeap} : aop_append hoK x0 x1 x2 x3 args h = aop (.append x0 x1 x2 x3) args h := by
  rw [hoEq]; rfl
theorem aop_appendz_eq {x0 : Nat} {x1 : Nat} {x2 : Nat} {x3 : Dat} {args : List AV} {h : AHeap} : aop_appendz hoK x0 x1 x2 x3 args h = aop (.appendz x0 x1 x2 x3) args h := by
  rw [hoEq]; rfl
theorem aop_copy_eq {x0 : Nat} {args : List AV} {h : AHeap} : aop_copy hoK x0 args h = aop (.copy x0) args h := by
  rw [hoEq]; rfl
theorem aop_delete_eq {x0 : EqK} {args : List AV} {h : AHeap} : aop_delete hoK x0 args h = aop (.delete x0) args h := by
  rw [hoEq]; rfl
theorem aop_cap_eq  {args : List AV} {h : AHeap} : aop_cap hoK  args h = aop (.cap ) args h := by
  rw [hoEq]; rfl
theorem aop_clear_eq {x0 : Nat} {x1 : Dat} {args : List AV} {h : AHeap} : aop_clear hoK x0 x1 args h = aop (.clear x0 x1) args h := by
  rw [hoEq]; rfl
theorem aop_range_eq  {args : List AV} {h : AHeap} : aop_range hoK  args h = aop (.range ) args h := by
  rw [hoEq]; rfl
theorem aop_entry_eq  {args : List AV} {h : AHeap} : aop_entry hoK  args h = aop (.entry ) args h := by
  rw [hoEq]; rfl
theorem aop_min_eq  {args : List AV} {h : AHeap} : aop_min hoK  args h = aop (.min ) args h := by
  rw [hoEq]; rfl
theorem aop_max_eq  {args : List AV} {h : AHeap} : aop_max hoK  args h = aop (.max ) args h := by
  rw [hoEq]; rfl
noncomputable def callK (D : DSem) (args : List AV) (h : AHeap) : Option (AV × AHeap) := match args with
  | .func f first captured :: rest => D (.f f) (first ++ rest ++ captured) h
  | .yield l :: rest => D (.y l) rest h
  | _ => none
noncomputable def doOpF (D : DSem) (o : AOp) : List AV → AHeap → Option (AV × AHeap) :=
  AOp.rec (motive := fun _ => List AV → AHeap → Option (AV × AHeap)) (aop_mv hoK) (aop_pick hoK) (fun x0 x1 x2 => aop_alloc hoK x0 x1 x2) (fun x0 x1 => aop_box hoK x0 x1) (fun x0 x1 => aop_build hoK x0 x1) (fun x0 x1 x2 x3 x4 => aop_bslice hoK x0 x1 x2 x3 x4) (aop_load1 hoK) (fun x0 => aop_loadn hoK x0) (fun x0 => aop_store hoK x0) (aop_nilCheck hoK) (fun x0 => aop_bin hoK x0) (fun x0 x1 => aop_eqv hoK x0 x1) (fun x0 => aop_un hoK x0) (fun x0 => aop_conv hoK x0) (aop_tostr hoK) (fun x0 => aop_sl2arr hoK x0) (fun x0 x1 => aop_mkfunc hoK x0 x1) (aop_mkmap hoK) (fun x0 x1 x2 x3 => aop_mkslice hoK x0 x1 x2 x3) (fun x0 x1 x2 x3 => aop_slice hoK x0 x1 x2 x3) (fun x0 x1 x2 x3 x4 => aop_slicea hoK x0 x1 x2 x3 x4) (fun x0 => aop_fieldAddr hoK x0) (fun x0 x1 x2 => aop_field hoK x0 x1 x2) (fun x0 x1 => aop_indexa hoK x0 x1) (fun x0 => aop_indexs hoK x0) (fun x0 x1 x2 => aop_indexv hoK x0 x1 x2) (aop_indexstr hoK) (fun x0 x1 x2 => aop_lookup hoK x0 x1 x2) (fun x0 => aop_mapput hoK x0) (fun x0 => aop_extract hoK x0) (aop_lens hoK) (aop_lenm hoK) (fun x0 => aop_lenc hoK x0) (aop_lenstr hoK) (aop_cap hoK) (fun x0 x1 x2 x3 => aop_append hoK x0 x1 x2 x3) (fun x0 x1 x2 x3 => aop_appendz hoK x0 x1 x2 x3) (fun x0 => aop_copy hoK x0) (fun x0 => aop_delete hoK x0) (fun x0 x1 => aop_clear hoK x0 x1) (aop_min hoK) (aop_max hoK) (aop_range hoK) nextD (aop_entry hoK) (callK D) (fun _ _ => none) (fun _ _ => none) o
theorem doOpF_eq {D : DSem} {o : AOp} {args : List AV} {h : AHeap} : doOpF D o args h = doOpD D o args h := by
  cases o with
  | mv => exact aop_mv_eq (args := args) (h := h)
  | pick => exact aop_pick_eq (args := args) (h := h)
  | alloc y0 y1 y2 => exact aop_alloc_eq (args := args) (h := h) (x0 := y0) (x1 := y1) (x2 := y2)
  | box y0 y1 => exact aop_box_eq (args := args) (h := h) (x0 := y0) (x1 := y1)
  | build y0 y1 => exact aop_build_eq (args := args) (h := h) (x0 := y0) (x1 := y1)
  | bslice y0 y1 y2 y3 y4 => exact aop_bslice_eq (args := args) (h := h) (x0 := y0) (x1 := y1) (x2 := y2) (x3 := y3) (x4 := y4)
  | load1 => exact aop_load1_eq (args := args) (h := h)
  | loadn y0 => exact aop_loadn_eq (args := args) (h := h) (x0 := y0)
  | store y0 => exact aop_store_eq (args := args) (h := h) (x0 := y0)
  | nilCheck => exact aop_nilCheck_eq (args := args) (h := h)
  | bin y0 => exact aop_bin_eq (args := args) (h := h) (x0 := y0)
  | eqv y0 y1 => exact aop_eqv_eq (args := args) (h := h) (x0 := y0) (x1 := y1)
  | un y0 => exact aop_un_eq (args := args) (h := h) (x0 := y0)
  | conv y0 => exact aop_conv_eq (args := args) (h := h) (x0 := y0)
  | tostr => exact aop_tostr_eq (args := args) (h := h)
  | sl2arr y0 => exact aop_sl2arr_eq (args := args) (h := h) (x0 := y0)
  | mkfunc y0 y1 => exact aop_mkfunc_eq (args := args) (h := h) (x0 := y0) (x1 := y1)
  | mkmap => exact aop_mkmap_eq (args := args) (h := h)
  | mkslice y0 y1 y2 y3 => exact aop_mkslice_eq (args := args) (h := h) (x0 := y0) (x1 := y1) (x2 := y2) (x3 := y3)
  | slice y0 y1 y2 y3 => exact aop_slice_eq (args := args) (h := h) (x0 := y0) (x1 := y1) (x2 := y2) (x3 := y3)
  | slicea y0 y1 y2 y3 y4 => exact aop_slicea_eq (args := args) (h := h) (x0 := y0) (x1 := y1) (x2 := y2) (x3 := y3) (x4 := y4)
  | fieldAddr y0 => exact aop_fieldAddr_eq (args := args) (h := h) (x0 := y0)
  | field y0 y1 y2 => exact aop_field_eq (args := args) (h := h) (x0 := y0) (x1 := y1) (x2 := y2)
  | indexa y0 y1 => exact aop_indexa_eq (args := args) (h := h) (x0 := y0) (x1 := y1)
  | indexs y0 => exact aop_indexs_eq (args := args) (h := h) (x0 := y0)
  | indexv y0 y1 y2 => exact aop_indexv_eq (args := args) (h := h) (x0 := y0) (x1 := y1) (x2 := y2)
  | indexstr => exact aop_indexstr_eq (args := args) (h := h)
  | lookup y0 y1 y2 => exact aop_lookup_eq (args := args) (h := h) (x0 := y0) (x1 := y1) (x2 := y2)
  | mapput y0 => exact aop_mapput_eq (args := args) (h := h) (x0 := y0)
  | extract y0 => exact aop_extract_eq (args := args) (h := h) (x0 := y0)
  | lens => exact aop_lens_eq (args := args) (h := h)
  | lenm => exact aop_lenm_eq (args := args) (h := h)
  | lenc y0 => exact aop_lenc_eq (args := args) (h := h) (x0 := y0)
  | lenstr => exact aop_lenstr_eq (args := args) (h := h)
  | cap => exact aop_cap_eq (args := args) (h := h)
  | append y0 y1 y2 y3 => exact aop_append_eq (args := args) (h := h) (x0 := y0) (x1 := y1) (x2 := y2) (x3 := y3)
  | appendz y0 y1 y2 y3 => exact aop_appendz_eq (args := args) (h := h) (x0 := y0) (x1 := y1) (x2 := y2) (x3 := y3)
  | copy y0 => exact aop_copy_eq (args := args) (h := h) (x0 := y0)
  | delete y0 => exact aop_delete_eq (args := args) (h := h) (x0 := y0)
  | clear y0 y1 => exact aop_clear_eq (args := args) (h := h) (x0 := y0) (x1 := y1)
  | min => exact aop_min_eq (args := args) (h := h)
  | max => exact aop_max_eq (args := args) (h := h)
  | range => exact aop_range_eq (args := args) (h := h)
  | next => exact rfl
  | entry => exact aop_entry_eq (args := args) (h := h)
  | callv => exact rfl
  | defer => exact rfl
  | bad => exact rfl
end Go.Proofs.YtlkfclgkinaibaaGreat

namespace Go.Proofs.YtlkfclgkinaibaaGreat
inductive ET where
  | leaf
  | node (l : ET) (v : AV) (r : ET)
noncomputable def etGet (v : AV) (gl gr : Nat → AV) (n : Nat) : AV := sel (Nat.beq n 0) v (sel (Nat.beq (Nat.mod n 2) 1) (gl (Nat.div n 2)) (gr (Nat.sub (Nat.div n 2) 1)))
noncomputable def ET.getO (t : ET) : Nat → AV := ET.rec (motive := fun _ => Nat → AV) (fun _ => .junk) (fun _ v _ gl gr => etGet v gl gr) t
noncomputable def etPut (l : ET) (x : AV) (r : ET) (pl pr : Nat → AV → ET) (n : Nat) (v : AV) : ET := sel (Nat.beq n 0) (.node l v r) (sel (Nat.beq (Nat.mod n 2) 1) (.node (pl (Nat.div n 2) v) x r) (.node l x (pr (Nat.sub (Nat.div n 2) 1) v)))
noncomputable def ET.putO (t : ET) : Nat → AV → ET := ET.rec (motive := fun _ => Nat → AV → ET) (fun _ _ => .leaf) (fun l x r pl pr => etPut l x r pl pr) t
noncomputable def ET.full (d : Nat) : ET := Nat.rec (motive := fun _ => ET) .leaf (fun _ t => .node t .junk t) d
def IsFull : Nat → ET → Prop
  | 0, .leaf => True
  | d + 1, .node l _ r => IsFull d l ∧ IsFull d r
  | _, _ => False
theorem ET.full_is : ∀ d, IsFull d (ET.full d)
  | 0 => trivial
  | d + 1 => ⟨ET.full_is d, ET.full_is d⟩
theorem ET.fullO_get : ∀ (d n : Nat), (ET.full d).getO n = .junk
  | 0, _ => rfl
  | d + 1, n => by
    show etGet .junk (ET.full d).getO (ET.full d).getO n = _
    simp only [etGet, sel_eq, ET.fullO_get d]
    split <;> (try split) <;> rfl
theorem ET.putO_full : ∀ {d : Nat} {t : ET} {n : Nat} {v : AV}, IsFull d t → IsFull d (t.putO n v)
  | 0, .leaf, _, _, _ => trivial
  | d + 1, .node l x r, n, v, h => by
    show IsFull (d + 1) (etPut l x r l.putO r.putO n v)
    simp only [etPut, sel_eq]
    split
    · exact h
    · split
      · exact ⟨ET.putO_full h.1, h.2⟩
      · exact ⟨h.1, ET.putO_full h.2⟩
  | 0, .node .., _, _, h => h.elim
  | d + 1, .leaf, _, _, h => h.elim
def gN (x : AV) (gl gr : Nat → AV) (m : Nat) : AV := if m = 0 then x else if m % 2 = 1 then gl (m / 2) else gr (m / 2 - 1)
theorem etGet_eq {x : AV} {gl gr : Nat → AV} {m : Nat} : etGet x gl gr m = gN x gl gr m := by
  simp only [etGet, gN, sel_eq, beqD, decide_eq_true_eq]
  rfl
theorem gN_0 {x v : AV} {gl gr : Nat → AV} {m : Nat} : gN v gl gr m = if m = 0 then v else gN x gl gr m := by
  unfold gN
  by_cases hm : m = 0
  · simp [hm]
  · simp [hm]
theorem gN_l {x v : AV} {gl gl' gr : Nat → AV} {n m : Nat} (h0 : ¬ n = 0) (h1 : n % 2 = 1) (hg : ∀ k, gl' k = if k = n / 2 then v else gl k) : gN x gl' gr m = if m = n then v else gN x gl gr m := by
  unfold gN
  rw [hg]
  by_cases e : m = n
  · subst e; simp [h0, h1]
  · rw [if_neg e]
    by_cases hm : m = 0
    · simp [hm]
    · by_cases ho : m % 2 = 1
      · rw [if_neg (show ¬ m / 2 = n / 2 by omega)]
      · simp [hm, ho]
theorem gN_r {x v : AV} {gl gr gr' : Nat → AV} {n m : Nat} (h0 : ¬ n = 0) (h1 : ¬ n % 2 = 1) (hg : ∀ k, gr' k = if k = n / 2 - 1 then v else gr k) : gN x gl gr' m = if m = n then v else gN x gl gr m := by
  unfold gN
  rw [hg]
  by_cases e : m = n
  · subst e; simp [h0, h1]
  · rw [if_neg e]
    by_cases hm : m = 0
    · simp [hm]
    · by_cases ho : m % 2 = 1
      · simp [hm, ho]
      · rw [if_neg (show ¬ m / 2 - 1 = n / 2 - 1 by omega)]
theorem ET.getO_put : ∀ {d : Nat} {t : ET} {n m : Nat} {v : AV}, IsFull d t → n + 1 < 2 ^ d → (t.putO n v).getO m = if m = n then v else t.getO m
  | 0, .leaf, n, m, v, _, hn => by simp at hn
  | d + 1, .node l x r, n, m, v, h, hn => by
    rw [Nat.pow_succ] at hn
    show ET.getO (etPut l x r l.putO r.putO n v) m = if m = n then v else etGet x l.getO r.getO m
    rw [etGet_eq]
    simp only [etPut, sel_eq, beqD, decide_eq_true_eq]
    split
    · rename_i h0
      subst h0
      show etGet v l.getO r.getO m = _
      rw [etGet_eq]
      exact gN_0
    · rename_i h0
      split
      · rename_i h1
        show etGet x (ET.getO (l.putO (n / 2) v)) r.getO m = _
        rw [etGet_eq]
        have h1 : n % 2 = 1 := h1
        exact gN_l h0 h1 fun k => ET.getO_put h.1 (by omega)
      · rename_i h1
        show etGet x l.getO (ET.getO (r.putO (n / 2 - 1) v)) m = _
        rw [etGet_eq]
        have h1 : ¬ n % 2 = 1 := h1
        exact gN_r h0 h1 fun k => ET.getO_put h.2 (by omega)
  | 0, .node .., _, _, _, h, _ => h.elim
  | d + 1, .leaf, _, _, _, h, _ => h.elim
noncomputable def ET.val (t : ET) : AV := ET.rec (motive := fun _ => AV) .junk (fun _ v _ _ _ => v) t
noncomputable def ET.lt (t : ET) : ET := ET.rec (motive := fun _ => ET) .leaf (fun l _ _ _ _ => l) t
noncomputable def ET.rt (t : ET) : ET := ET.rec (motive := fun _ => ET) .leaf (fun _ _ r _ _ => r) t
noncomputable def getP (p : Pth) : ET → AV := Pth.rec (motive := fun _ => ET → AV) ET.val (fun _ ih t => ih (ET.lt t)) (fun _ ih t => ih (ET.rt t)) p
noncomputable def putZ' (v : AV) (t : ET) : ET := ET.rec (motive := fun _ => ET) .leaf (fun l _ r _ _ => .node l v r) t
noncomputable def putL' (ih : AV → ET → ET) (v : AV) (t : ET) : ET := ET.rec (motive := fun _ => ET) .leaf (fun l x r _ _ => .node (ih v l) x r) t
noncomputable def putR' (ih : AV → ET → ET) (v : AV) (t : ET) : ET := ET.rec (motive := fun _ => ET) .leaf (fun l x r _ _ => .node l x (ih v r)) t
noncomputable def putP (p : Pth) : AV → ET → ET := Pth.rec (motive := fun _ => AV → ET → ET) putZ' (fun _ ih => putL' ih) (fun _ ih => putR' ih) p
noncomputable def ET.get (t : ET) (n : Nat) : AV := getP (pth n) t
noncomputable def ET.put (t : ET) (n : Nat) (v : AV) : ET := putP (pth n) v t
theorem getP_leaf : ∀ (p : Pth), getP p .leaf = .junk
  | .z => rfl
  | .l p => getP_leaf p
  | .r p => getP_leaf p
theorem putP_leaf {v : AV} : ∀ (p : Pth), putP p v .leaf = .leaf
  | .z => rfl
  | .l _ => rfl
  | .r _ => rfl
theorem getP_eq : ∀ (f n : Nat) (t : ET), n < f → getP (pthF f n) t = t.getO n
  | 0, n, t, h => by omega
  | f + 1, n, .leaf, h => by rw [getP_leaf]; rfl
  | f + 1, n, .node l v r, h => by
    show getP (sel (Nat.beq n 0) .z (sel (Nat.beq (n % 2) 1) (.l (pthF f (n / 2))) (.r (pthF f (n / 2 - 1))))) _ = etGet v l.getO r.getO n
    rw [etGet_eq]
    simp only [sel_eq, beqD, decide_eq_true_eq, gN]
    split
    · rfl
    · split
      · exact getP_eq f _ l (by omega)
      · exact getP_eq f _ r (by omega)
theorem putP_eq {v : AV} : ∀ (f n : Nat) (t : ET), n < f → putP (pthF f n) v t = t.putO n v
  | 0, n, t, h => by omega
  | f + 1, n, .leaf, h => by rw [putP_leaf]; rfl
  | f + 1, n, .node l x r, h => by
    show putP (sel (Nat.beq n 0) .z (sel (Nat.beq (n % 2) 1) (.l (pthF f (n / 2))) (.r (pthF f (n / 2 - 1))))) _ _ = etPut l x r l.putO r.putO n v
    simp only [sel_eq, beqD, decide_eq_true_eq, etPut]
    split
    · rfl
    · rename_i h0
      split
      · rename_i h1
        rw [if_pos (show n.mod 2 = 1 from h1)]
        show ET.node (putP (pthF f (n / 2)) v l) x r = _
        rw [putP_eq f _ l (by omega)]; rfl
      · rename_i h1
        rw [if_neg (show ¬ n.mod 2 = 1 from h1)]
        show ET.node l x (putP (pthF f (n / 2 - 1)) v r) = _
        rw [putP_eq f _ r (by omega)]; rfl
theorem ET.get_eq (t : ET) (n : Nat) : t.get n = t.getO n := getP_eq _ _ _ (Nat.lt_succ_self n)
theorem ET.put_eq (t : ET) (n : Nat) (v : AV) : t.put n v = t.putO n v := putP_eq _ _ _ (Nat.lt_succ_self n)
theorem ET.full_get (d n : Nat) : (ET.full d).get n = .junk := by rw [ET.get_eq, ET.fullO_get]
theorem ET.put_full {d : Nat} {t : ET} {n : Nat} {v : AV} (h : IsFull d t) : IsFull d (t.put n v) := by rw [ET.put_eq]; exact ET.putO_full h
theorem ET.get_put {d : Nat} {t : ET} {n m : Nat} {v : AV} (h : IsFull d t) (hn : n + 1 < 2 ^ d) : (t.put n v).get m = if m = n then v else t.get m := by
  rw [ET.get_eq, ET.put_eq, ET.get_eq, ET.getO_put h hn]
noncomputable def ET.putL (l : List AV) : Nat → ET → ET := List.rec (motive := fun _ => Nat → ET → ET) (fun _ t => t) (fun v _ ih n t => ih (Nat.succ n) (ET.put t n v)) l
noncomputable def toL (t : ET) (N : Nat) : List AV := (List.range N).map t.get
theorem toL_get {t : ET} {N i : Nat} : (toL t N)[i]? = if i < N then some (t.get i) else none := by
  simp only [toL, List.getElem?_map]
  split
  · rename_i h; rw [List.getElem?_eq_getElem (by simpa using h)]; simp
  · rename_i h; rw [List.getElem?_eq_none (by simpa using h)]; rfl
theorem toL_length {t : ET} {N : Nat} : (toL t N).length = N := by simp [toL]
structure Good (N : Nat) (t : ET) : Prop where
  full : ∃ d, IsFull d t ∧ N < 2 ^ d
  out : ∀ n, N ≤ n → t.get n = .junk
theorem Good.put {N : Nat} {t : ET} {n : Nat} {v : AV} (g : Good N t) (hn : n < N) : Good N (t.put n v) ∧ toL (t.put n v) N = (toL t N).set n v := by
  obtain ⟨d, h1, h2⟩ := g.full
  have hg := fun m => ET.get_put (n := n) (m := m) (v := v) h1 (by omega)
  refine ⟨⟨⟨d, ET.put_full h1, h2⟩, fun m hm => ?_⟩, ?_⟩
  · rw [hg, if_neg (by omega), g.out m hm]
  · apply List.ext_getElem?
    intro i
    rw [toL_get, List.getElem?_set, toL_get, toL_length]
    by_cases e : n = i
    · subst e; rw [if_pos hn, if_pos rfl, if_pos hn, hg, if_pos rfl]
    · rw [if_neg e]
      split
      · rw [hg, if_neg (fun q => e q.symm)]
      · rfl
theorem Good.look {N : Nat} {t : ET} (g : Good N t) {i : Nat} : ((toL t N)[i]?).bind AV.notJunk = AV.notJunk (t.get i) := by
  rw [toL_get]
  split
  · rfl
  · rename_i h; rw [g.out i (by omega)]; rfl
noncomputable def opdF (E : ET) (o : Opd) : Option AV := Opd.rec (motive := fun _ => Option AV) (fun t => AV.notJunk (E.get t)) some o
noncomputable def consV (x : Option AV) (r : Option (List AV)) : Option (List AV) := Option.rec (motive := fun _ => Option (List AV)) none (fun v => Option.rec (motive := fun _ => Option (List AV)) none (fun l => some (v :: l)) r) x
noncomputable def evalLF (E : ET) (l : List Opd) : Option (List AV) := List.rec (motive := fun _ => Option (List AV)) (some []) (fun o _ ih => consV (opdF E o) ih) l
theorem opdF_eq {N : Nat} {E : ET} (g : Good N E) {o : Opd} : opdF E o = o.eval (toL E N) := by
  cases o with
  | tmp t => exact g.look.symm
  | lit v => rfl
theorem evalLF_eq {N : Nat} {E : ET} (g : Good N E) : ∀ {l : List Opd}, evalLF E l = evalL (toL E N) l
  | [] => rfl
  | o :: l => by
    show consV (opdF E o) (evalLF E l) = _
    rw [opdF_eq g, evalLF_eq g]
    simp only [evalL]
    cases o.eval (toL E N) with
    | none => rfl
    | some v => cases evalL (toL E N) l <;> rfl
noncomputable def boolV (v : AV) (f : Bool → Option Bool) : Option Bool := match v with
  | .bool b => f b
  | .tuple _ => some false
  | _ => none
noncomputable def wantF (E : ET) (g : Option (Nat × Bool)) : Option Bool := Option.rec (motive := fun _ => Option Bool) (some true) (fun p => boolV (E.get p.1) fun b => some (b == p.2)) g
theorem wantF_eq {N : Nat} {E : ET} (g : Good N E) {w : Option (Nat × Bool)} : wantF E w = wantedA (toL E N) w := by
  cases w with
  | none => rfl
  | some p =>
    obtain ⟨s, q⟩ := p
    show boolV (E.get s) _ = _
    simp only [wantedA, toL_get]
    by_cases h : s < N
    · rw [if_pos h]; simp only [boolV]; split <;> simp_all
    · rw [if_neg h, g.out s (by omega)]; rfl
abbrev RF := Option (ET × AHeap)
noncomputable def setF (N : Nat) (dst : Option Nat) (E : ET) (v : AV) (h : AHeap) : RF := Option.rec (motive := fun _ => RF) (some (E, h)) (fun d => sel (Nat.blt d N) (some (E.put d v, h)) none) dst
noncomputable def finF (N : Nat) (dst : Option Nat) (E : ET) (r : Option (AV × AHeap)) : RF := Option.rec (motive := fun _ => RF) none (fun p => Prod.rec (motive := fun _ => RF) (fun v h => setF N dst E v h) p) r
noncomputable def runOpF (D : DSem) (N : Nat) (dst : Option Nat) (op : AOp) (args : List Opd) (E : ET) (h : AHeap) : RF := Option.rec (motive := fun _ => RF) none (fun vs => finF N dst E (doOpF D op vs h)) (evalLF E args)
noncomputable def guardF (D : DSem) (N : Nat) (dst : Option Nat) (op : AOp) (args : List Opd) (E : ET) (h : AHeap) (w : Option Bool) : RF := Option.rec (motive := fun _ => RF) none (fun b => sel b (runOpF D N dst op args E h) (setF N dst E (.tuple []) h)) w
noncomputable def runInF (D : DSem) (N : Nat) (i : AIn) (E : ET) (h : AHeap) : RF := AIn.rec (motive := fun _ => RF) (fun dst op args g => Option.rec (motive := fun _ => RF) (runOpF D N dst op args E h) (fun p => guardF D N dst op args E h (wantF E (some p))) g) i
noncomputable def bindEH {β : Type} (r : RF) (k : ET → AHeap → Option β) : Option β := Option.rec (motive := fun _ => Option β) none (fun p => Prod.rec (motive := fun _ => Option β) k p) r
noncomputable def runInsF (D : DSem) (N : Nat) (is : List AIn) : ET → AHeap → RF := List.rec (motive := fun _ => ET → AHeap → RF) (fun E h => some (E, h)) (fun i _ ih E h => bindEH (runInF D N i E h) ih) is
section
variable {D : DSem} {N : Nat}
theorem setF_ok {dst : Option Nat} {E E' : ET} {v : AV} {h h' : AHeap} (g : Good N E) (x : setF N dst E v h = some (E', h')) : Good N E' ∧ toL E' N = setDst (toL E N) dst v ∧ h' = h := by
  cases dst with
  | none => cases x; exact ⟨g, rfl, rfl⟩
  | some d =>
    change sel (Nat.blt d N) (some (E.put d v, h)) none = _ at x
    rw [sel_eq, bltD] at x
    split at x
    · rename_i hd
      cases x
      obtain ⟨g1, g2⟩ := g.put (v := v) (of_decide_eq_true hd)
      exact ⟨g1, g2, rfl⟩
    · cases x
theorem runOpF_ok {dst : Option Nat} {op : AOp} {args : List Opd} {E E' : ET} {h h' : AHeap} (g : Good N E) (x : runOpF D N dst op args E h = some (E', h')) : Good N E' ∧ runInD D ⟨dst, op, args, none⟩ (toL E N) h = some (toL E' N, h') := by
  unfold runOpF at x
  rw [evalLF_eq g] at x
  unfold runInD
  simp only [wantedA]
  cases he : evalL (toL E N) args with
  | none => rw [he] at x; cases x
  | some vs =>
    rw [he] at x
    change finF N dst E (doOpF D op vs h) = _ at x
    rw [doOpF_eq] at x
    cases hd : doOpD D op vs h with
    | none => rw [hd] at x; cases x
    | some p =>
      obtain ⟨v, h1⟩ := p
      rw [hd] at x
      obtain ⟨g1, g2, rfl⟩ := setF_ok g x
      exact ⟨g1, by simp only [hd, g2]⟩
theorem runInF_ok {i : AIn} {E E' : ET} {h h' : AHeap} (g : Good N E) (x : runInF D N i E h = some (E', h')) : Good N E' ∧ runInD D i (toL E N) h = some (toL E' N, h') := by
  obtain ⟨dst, op, args, w⟩ := i
  cases w with
  | none => exact runOpF_ok g x
  | some p =>
    change guardF D N dst op args E h (wantF E (some p)) = _ at x
    rw [wantF_eq g] at x
    unfold runInD
    cases hw : wantedA (toL E N) (some p) with
    | none => rw [hw] at x; cases x
    | some b =>
      rw [hw] at x
      cases b with
      | true =>
        obtain ⟨g1, g2⟩ := runOpF_ok g x
        refine ⟨g1, ?_⟩
        unfold runInD at g2
        simpa only [wantedA] using g2
      | false =>
        obtain ⟨g1, g2, rfl⟩ := setF_ok g x
        exact ⟨g1, by rw [g2]⟩
theorem runInsF_ok : ∀ {is : List AIn} {E E' : ET} {h h' : AHeap}, Good N E → runInsF D N is E h = some (E', h') → Good N E' ∧ runInsD D is (toL E N) h = some (toL E' N, h')
  | [], _, _, _, _, g, x => by cases x; exact ⟨g, rfl⟩
  | i :: is, E, E', h, h', g, x => by
    change bindEH (runInF D N i E h) (runInsF D N is) = _ at x
    cases hi : runInF D N i E h with
    | none => rw [hi] at x; cases x
    | some p =>
      obtain ⟨E1, h1⟩ := p
      rw [hi] at x
      obtain ⟨g1, g2⟩ := runInF_ok g hi
      obtain ⟨g3, g4⟩ := runInsF_ok g1 x
      refine ⟨g3, ?_⟩
      simp only [runInsD, g2]
      exact g4
end
noncomputable def againF (N : Nat) (r : AIn) (E : ET) (h : AHeap) : Bool := again r (toL E N) h
noncomputable def runDrawF (D : DSem) (N : Nat) (ds : List DI) : ET → AHeap → Option ((ET × AHeap) × List (Nat × Nat × Nat)) := List.rec (motive := fun _ => ET → AHeap → Option ((ET × AHeap) × List (Nat × Nat × Nat))) (fun E h => some ((E, h), []))
  (fun d _ ih E h => bindEH (runInF D N d.i E h) fun E' h' => sel (d.rs.all fun r => againF N r.2 E' h') (Option.rec (motive := fun _ => Option ((ET × AHeap) × List (Nat × Nat × Nat))) none (fun p => some (p.1, (d.j, h.next, h'.next) :: p.2)) (ih E' h')) none) ds
theorem runDrawF_ok {D : DSem} {N : Nat} : ∀ {ds : List DI} {E E' : ET} {h h' : AHeap} {l : List (Nat × Nat × Nat)}, Good N E → runDrawF D N ds E h = some ((E', h'), l) → Good N E' ∧ runDrawT D ds (toL E N) h = some ((toL E' N, h'), l)
  | [], _, _, _, _, _, g, x => by cases x; exact ⟨g, rfl⟩
  | d :: ds, E, E', h, h', l, g, x => by
    change bindEH (runInF D N d.i E h) (fun E1 h1 => sel (d.rs.all fun r => againF N r.2 E1 h1) (Option.rec (motive := fun _ => Option ((ET × AHeap) × List (Nat × Nat × Nat))) none (fun p => some (p.1, (d.j, h.next, h1.next) :: p.2)) (runDrawF D N ds E1 h1)) none) = _ at x
    cases hi : runInF D N d.i E h with
    | none => rw [hi] at x; cases x
    | some p =>
      obtain ⟨E1, h1⟩ := p
      rw [hi] at x
      change sel (d.rs.all fun r => againF N r.2 E1 h1) _ none = _ at x
      obtain ⟨g1, g2⟩ := runInF_ok g hi
      rw [sel_eq] at x
      simp only [runDrawT, g2]
      split at x
      · rename_i ha
        rw [if_pos (by simpa only [againF] using ha)]
        cases hr : runDrawF D N ds E1 h1 with
        | none => rw [hr] at x; cases x
        | some q =>
          obtain ⟨⟨E2, h2⟩, l2⟩ := q
          rw [hr] at x
          cases x
          obtain ⟨g3, g4⟩ := runDrawF_ok g1 hr
          exact ⟨g3, by rw [g4]⟩
      · cases x
abbrev XF := Option (AExit × ET × AHeap)
noncomputable def bindX (r : XF) (n : ET → AHeap → XF) (e : Nat → ET → AHeap → XF) (t : ET → AHeap → XF) : XF :=
  Option.rec (motive := fun _ => XF) none (fun p => Prod.rec (motive := fun _ => XF) (fun x q => Prod.rec (motive := fun _ => XF) (fun E h => AExit.rec (motive := fun _ => XF) (n E h) (fun i => e i E h) (t E h) x) q) p) r
noncomputable def exitX (i : Nat) (E : ET) (h : AHeap) : XF := some (.exit i, E, h)
noncomputable def retX (E : ET) (h : AHeap) : XF := some (.ret, E, h)
noncomputable def normX (E : ET) (h : AHeap) : XF := some (.normal, E, h)
noncomputable def loopF (b : ET → AHeap → XF) (k : Nat) : ET → AHeap → XF := Nat.rec (motive := fun _ => ET → AHeap → XF) b (fun _ ih E h => bindX (ih E h) ih exitX retX) k
noncomputable def noX (_ : ET) (_ : AHeap) : XF := none
noncomputable def condF (v : Option AV) (a b : XF) : XF := Option.rec (motive := fun _ => XF) none (fun v => Option.rec (motive := fun _ => XF) none (fun q => sel q a b) (boolV2 v)) v
where boolV2 (v : AV) : Option Bool := match v with
  | .bool b => some b
  | _ => none
noncomputable def execF (D : DSem) (N : Nat) (ro : Option Nat) (c : ACode) : ET → AHeap → XF := ACode.rec (motive := fun _ => ET → AHeap → XF)
  normX
  (fun ops E h => bindEH (runInsF D N ops E h) normX)
  (fun _ _ fa fb E h => bindX (fa E h) fb exitX retX)
  (fun c _ _ fa fb E h => condF (opdF E c) (fa E h) (fb E h))
  (fun id _ f E h => bindX (f E h) normX (fun i E h => sel (Nat.beq i id) (normX E h) (exitX i E h)) retX)
  (fun _ f E h => bindX (loopF f 40 E h) noX exitX retX)
  (fun f ps asg body _ _ E h => rfunF D N ro f ps asg body E h)
  exitX
  retX
  (fun alts E h => drawF D N alts E h)
  noX c
where
  rfunF (D : DSem) (N : Nat) (ro : Option Nat) (f : Opd) (ps : List Nat) (asg body : ACode) (E : ET) (h : AHeap) : XF :=
    match opdF E f with
    | some (.func g first captured) => if isLoopD h ro then
        match D (.f g) (first ++ [.yield h.next] ++ captured) (h.new (.loop .ready none (toL E N) ps asg body)) with
        | some (_, h') => match h'.get h.next with
          | some (.loop .busy _ _ _ _ _) => none
          | some (.loop _ j _ _ _ _) => some (j.getD .normal, E, h'.kill h.next)
          | _ => none
        | none => none
      else none
    | _ => none
  drawF (D : DSem) (N : Nat) (alts : List (List DI)) (E : ET) (h : AHeap) : XF :=
    match alts with
    | ds :: rest => match runDrawF D N ds E h with
      | some ((E0, h0), l0) => if rest.all (fun d1 => match runDrawF D N d1 E h with
          | some ((E1, h1), l1) => renOk h.next (shiftOf l0 l1) (shiftOf l1 l0) (toL E0 N) h0 (toL E1 N) h1
          | none => false) then some (.normal, E0, h0) else none
      | none => none
    | _ => none
end Go.Proofs.YtlkfclgkinaibaaGreat

namespace Go.Proofs.YtlkfclgkinaibaaGreat
section
variable {D : DSem} {N : Nat}
theorem bindX_some {r : XF} {n : ET → AHeap → XF} {e : Nat → ET → AHeap → XF} {t : ET → AHeap → XF} {y : AExit × ET × AHeap} (x : bindX r n e t = some y) :
    ∃ z E h, r = some (z, E, h) ∧ (match z with | .normal => n E h | .exit i => e i E h | .ret => t E h) = some y := by
  cases r with
  | none => cases x
  | some p =>
    obtain ⟨z, E, h⟩ := p
    refine ⟨z, E, h, rfl, ?_⟩
    cases z <;> exact x
theorem loopF_ok {b : ET → AHeap → XF} {body : List AV → AHeap → OutD} (hb : ∀ E h x E' h', Good N E → b E h = some (x, E', h') → Good N E' ∧ body (toL E N) h = some (x, toL E' N, h')) :
    ∀ (k : Nat) {E E' : ET} {h h' : AHeap} {x : AExit}, Good N E → loopF b k E h = some (x, E', h') → Good N E' ∧ (x = .normal → ∀ n, iterD body (n + 2 ^ k) (toL E N) h = iterD body n (toL E' N) h') ∧ (x ≠ .normal → ∀ n, iterD body (n + 2 ^ k) (toL E N) h = some (x, toL E' N, h'))
  | 0, E, E', h, h', x, g, e => by
    obtain ⟨g1, g2⟩ := hb _ _ _ _ _ g e
    refine ⟨g1, fun hx n => ?_, fun hx n => ?_⟩
    · subst hx
      simp only [Nat.pow_zero, iterD, g2]
    · simp only [Nat.pow_zero, iterD, g2]
      cases x with
      | normal => exact absurd rfl hx
      | exit i => rfl
      | ret => rfl
  | k + 1, E, E', h, h', x, g, e => by
    have e : bindX (loopF b k E h) (loopF b k) exitX retX = some (x, E', h') := e
    obtain ⟨z, E1, h1, e1, e2⟩ := bindX_some e
    obtain ⟨g1, p1, p2⟩ := loopF_ok hb k g e1
    cases z with
    | normal =>
      obtain ⟨g2, q1, q2⟩ := loopF_ok hb k g1 e2
      refine ⟨g2, fun hx n => ?_, fun hx n => ?_⟩
      · rw [Nat.pow_succ, show n + 2 ^ k * 2 = (n + 2 ^ k) + 2 ^ k by omega, p1 rfl, q1 hx]
      · rw [Nat.pow_succ, show n + 2 ^ k * 2 = (n + 2 ^ k) + 2 ^ k by omega, p1 rfl, q2 hx]
    | exit i =>
      cases e2
      refine ⟨g1, fun hx => (by cases hx), fun hx n => ?_⟩
      rw [Nat.pow_succ, show n + 2 ^ k * 2 = (n + 2 ^ k) + 2 ^ k by omega]
      exact p2 hx _
    | ret =>
      cases e2
      refine ⟨g1, fun hx => (by cases hx), fun hx n => ?_⟩
      rw [Nat.pow_succ, show n + 2 ^ k * 2 = (n + 2 ^ k) + 2 ^ k by omega]
      exact p2 hx _
theorem rounds_eq : rounds = 0 + 2 ^ 40 := by decide
theorem execF_ok {ro : Option Nat} : ∀ {c : ACode} {E E' : ET} {h h' : AHeap} {x : AExit}, Good N E → execF D N ro c E h = some (x, E', h') → Good N E' ∧ execD D ro c (toL E N) h = some (x, toL E' N, h')
  | .skip, _, _, _, _, _, g, e => by cases e; exact ⟨g, rfl⟩
  | .region ops, E, E', h, h', x, g, e => by
    change bindEH (runInsF D N ops E h) normX = _ at e
    cases hi : runInsF D N ops E h with
    | none => rw [hi] at e; cases e
    | some p =>
      obtain ⟨E1, h1⟩ := p
      rw [hi] at e
      cases e
      obtain ⟨g1, g2⟩ := runInsF_ok g hi
      exact ⟨g1, by simp only [execD, g2]⟩
  | .seq a b, E, E', h, h', x, g, e => by
    change bindX (execF D N ro a E h) (execF D N ro b) exitX retX = _ at e
    obtain ⟨z, E1, h1, e1, e2⟩ := bindX_some e
    obtain ⟨g1, p1⟩ := execF_ok g e1
    cases z with
    | normal =>
      obtain ⟨g2, p2⟩ := execF_ok g1 e2
      exact ⟨g2, by simp only [execD, p1, p2]⟩
    | exit i => cases e2; exact ⟨g1, by simp only [execD, p1]⟩
    | ret => cases e2; exact ⟨g1, by simp only [execD, p1]⟩
  | .cond c a b, E, E', h, h', x, g, e => by
    change condF (opdF E c) (execF D N ro a E h) (execF D N ro b E h) = _ at e
    rw [opdF_eq g] at e
    simp only [execD]
    cases hc : c.eval (toL E N) with
    | none => rw [hc] at e; cases e
    | some v =>
      rw [hc] at e
      cases v with
      | bool q =>
        cases q with
        | true => exact execF_ok g e
        | false => exact execF_ok g e
      | _ => cases e
  | .block id b, E, E', h, h', x, g, e => by
    change bindX (execF D N ro b E h) normX (fun i E h => sel (Nat.beq i id) (normX E h) (exitX i E h)) retX = _ at e
    obtain ⟨z, E1, h1, e1, e2⟩ := bindX_some e
    obtain ⟨g1, p1⟩ := execF_ok g e1
    cases z with
    | normal => cases e2; exact ⟨g1, by simp only [execD, p1]⟩
    | exit i =>
      change sel (Nat.beq i id) (normX E1 h1) (exitX i E1 h1) = _ at e2
      rw [sel_eq, beqD] at e2
      split at e2
      · rename_i hi
        cases e2
        exact ⟨g1, by simp only [execD, p1, if_pos (of_decide_eq_true hi)]⟩
      · rename_i hi
        cases e2
        exact ⟨g1, by simp only [execD, p1, if_neg (fun q => hi (decide_eq_true q))]⟩
    | ret => cases e2; exact ⟨g1, by simp only [execD, p1]⟩
  | .loop b, E, E', h, h', x, g, e => by
    change bindX (loopF (execF D N ro b) 40 E h) noX exitX retX = _ at e
    obtain ⟨z, E1, h1, e1, e2⟩ := bindX_some e
    obtain ⟨g1, p1, p2⟩ := loopF_ok (body := execD D ro b) (fun E h x E' h' g e => execF_ok g e) 40 g e1
    simp only [execD, rounds_eq]
    cases z with
    | normal => cases e2
    | exit i => cases e2; exact ⟨g1, p2 (fun q => by cases q) 0⟩
    | ret => cases e2; exact ⟨g1, p2 (fun q => by cases q) 0⟩
  | .exit _, _, _, _, _, _, g, e => by cases e; exact ⟨g, rfl⟩
  | .ret, _, _, _, _, _, g, e => by cases e; exact ⟨g, rfl⟩
  | .draw alts, E, E', h, h', x, g, e => by
    change execF.drawF D N alts E h = _ at e
    unfold execF.drawF at e
    simp only [execD]
    split at e
    · rename_i ds rest
      split at e
      · rename_i E0 h0 l0 h1
        obtain ⟨g1, p1⟩ := runDrawF_ok g h1
        split at e
        · rename_i hall
          cases e
          refine ⟨g1, ?_⟩
          dsimp only
          rw [p1]
          dsimp only
          rw [if_pos]
          refine List.all_eq_true.2 fun d1 hd => ?_
          have := List.all_eq_true.1 hall d1 hd
          split at this
          · rename_i E1 hh1 l1 h2
            obtain ⟨g2, p2⟩ := runDrawF_ok g h2
            rw [p2]
            exact this
          · cases this
        · cases e
      · cases e
    · cases e
  | .rfun f ps asg body, E, E', h, h', x, g, e => by
    change execF.rfunF D N ro f ps asg body E h = _ at e
    unfold execF.rfunF at e
    rw [opdF_eq g] at e
    simp only [execD]
    split at e
    · rename_i gg first captured hf
      rw [hf]
      dsimp only
      split at e
      · rename_i hl
        rw [if_pos hl]
        split at e
        · rename_i v h1 h2
          rw [h2]
          dsimp only
          split at e
          · cases e
          · rename_i st j t p a b hne hg
            cases e
            refine ⟨g, ?_⟩
            rw [hg]
            split
            · rename_i heq; cases heq; exact absurd rfl hne
            · rename_i heq; cases heq; rfl
            · rename_i h3 h4; exact absurd rfl (h4 _ _ _ _ _ _)
          · cases e
        · cases e
      · cases e
    · cases e
  | .bad, _, _, _, _, _, _, e => by cases e
theorem putL_good : ∀ {l : List AV} {n : Nat} {E : ET}, Good N E → n + l.length ≤ N → Good N (ET.putL l n E) ∧ toL (ET.putL l n E) N = (toL E N).take n ++ l ++ (toL E N).drop (n + l.length)
  | [], n, E, g, hn => ⟨g, by
    show toL E N = _
    simp⟩
  | v :: l, n, E, g, hn => by
    simp only [List.length_cons] at hn
    obtain ⟨g1, p1⟩ := g.put (n := n) (v := v) (by omega)
    obtain ⟨g2, p2⟩ := putL_good (l := l) (n := n + 1) g1 (by omega)
    refine ⟨g2, ?_⟩
    show toL (ET.putL l (n + 1) (E.put n v)) N = _
    rw [p2, p1]
    have hl : (toL E N).length = N := toL_length
    have ht : ((toL E N).set n v).take (n + 1) = (toL E N).take n ++ [v] := by
      rw [List.take_add_one, List.take_set, List.set_eq_of_length_le (by rw [List.length_take]; omega), List.getElem?_set, if_pos rfl, if_pos (by omega)]; rfl
    have hd : ((toL E N).set n v).drop (n + 1 + l.length) = (toL E N).drop (n + (v :: l).length) := by
      rw [List.drop_set, if_pos (by omega), List.length_cons, show n + 1 + l.length = n + (l.length + 1) by omega]
    rw [ht, hd, List.append_assoc, List.append_assoc, List.append_assoc]
    rfl
noncomputable def newE (n : Nat) : ET := ET.full (Nat.succ (Nat.log2 n))
theorem newE_good (n : Nat) : Good n (newE n) ∧ toL (newE n) n = List.replicate n .junk := by
  refine ⟨⟨⟨_, ET.full_is _, Nat.lt_log2_self⟩, fun m _ => ET.full_get _ _⟩, ?_⟩
  apply List.ext_getElem?
  intro i
  rw [toL_get, List.getElem?_replicate]
  split
  · rw [newE, ET.full_get]
  · rfl
noncomputable def cellF (v : Option AV) (o : AOp) (h : AHeap) : Option AV := Option.rec (motive := fun _ => Option AV) none (fun a => Option.rec (motive := fun _ => Option AV) none (fun p => some p.1) (aop o [a] h)) v
noncomputable def resOneF (E : ET) (h : AHeap) (r : ARes) : Option AV := ARes.rec (motive := fun _ => Option AV) (fun t => AV.notJunk (E.get t)) (fun t o => cellF (AV.notJunk (E.get t)) o h) r
noncomputable def resF (E : ET) (h : AHeap) (rs : List ARes) : Option (List AV) := List.rec (motive := fun _ => Option (List AV)) (some []) (fun r _ ih => consV (resOneF E h r) ih) rs
theorem resF_eq {E : ET} (g : Good N E) {h : AHeap} : ∀ {rs : List ARes}, resF E h rs = resA (toL E N) h rs
  | [] => rfl
  | .tmp t :: rs => by
    show consV (AV.notJunk (E.get t)) (resF E h rs) = _
    simp only [resA, Opd.eval, g.look, resF_eq g (rs := rs)]
    cases AV.notJunk (E.get t) with
    | none => rfl
    | some v => cases resA (toL E N) h rs <;> rfl
  | .cell t o :: rs => by
    show consV (cellF (AV.notJunk (E.get t)) o h) (resF E h rs) = _
    simp only [resA, Opd.eval, g.look, resF_eq g (rs := rs)]
    cases AV.notJunk (E.get t) with
    | none => rfl
    | some v =>
      show consV (Option.rec (motive := fun _ => Option AV) none (fun p => some p.1) (aop o [v] h)) _ = _
      dsimp only
      cases aop o [v] h with
      | none => rfl
      | some p => cases resA (toL E N) h rs <;> rfl
noncomputable def retF (vs : Option (List AV)) (h : AHeap) : Option (AV × AHeap) := Option.rec (motive := fun _ => Option (AV × AHeap)) none (fun vs => some (retA vs, h)) vs
noncomputable def setPs (N : Nat) (ps : List Nat) : List AV → ET → Option ET := List.rec (motive := fun _ => List AV → ET → Option ET) (fun _ E => some E) (fun p _ ih vs E => List.rec (motive := fun _ => Option ET) (some E) (fun v r _ => sel (Nat.blt p N) (ih r (E.put p v)) none) vs) ps
theorem setPs_ok : ∀ {ps : List Nat} {vs : List AV} {E E' : ET}, Good N E → setPs N ps vs E = some E' → Good N E' ∧ toL E' N = setAll (toL E N) ps vs
  | [], vs, E, E', g, x => by cases x; exact ⟨g, by simp [setAll]⟩
  | p :: ps, [], E, E', g, x => by cases x; exact ⟨g, by simp [setAll]⟩
  | p :: ps, v :: vs, E, E', g, x => by
    change sel (Nat.blt p N) (setPs N ps vs (E.put p v)) none = _ at x
    rw [sel_eq, bltD] at x
    split at x
    · rename_i hp
      obtain ⟨g1, p1⟩ := g.put (n := p) (v := v) (of_decide_eq_true hp)
      obtain ⟨g2, p2⟩ := setPs_ok g1 x
      exact ⟨g2, by rw [p2, p1, setAll]⟩
    · cases x
noncomputable def roundF (D : DSem) (l : Nat) (args : List AV) (h : AHeap) : Option (AV × AHeap) :=
  match h.get l with
  | some (.loop _ _ tmps ps asg body) => if args.length = ps.length then
      match setPs tmps.length ps args (ET.putL tmps 0 (newE tmps.length)) with
      | some E => match execF D tmps.length (some l) asg E h with
        | some (.normal, E1, h1) => match h1.get l with
          | some (.loop .ready j t p a b) => match execF D tmps.length (some l) body E1 (h1.put l (.loop .busy j t p a b)) with
            | some (x, _, h2) => match h2.get l with
              | some (.loop _ _ t p a b) => match x with
                | .normal => some (.bool true, h2.put l (.loop .ready none t p a b))
                | .exit i => some (.bool false, h2.put l (.loop .done (some (.exit i)) t p a b))
                | .ret => some (.bool false, h2.put l (.loop .done (some .ret) t p a b))
              | _ => none
            | none => none
          | _ => none
        | _ => none
      | none => none
    else none
  | _ => none
theorem roundF_ok {l : Nat} {args : List AV} {h h' : AHeap} {v : AV} (x : roundF D l args h = some (v, h')) : roundD D l args h = some (v, h') := by
  unfold roundF at x
  unfold roundD
  split at x
  · rename_i st0 j0 tmps ps asg body hg
    rw [hg]
    dsimp only
    split at x
    · rename_i hl
      rw [if_pos hl]
      split at x
      · rename_i E hE
        obtain ⟨g0, p0⟩ := newE_good tmps.length
        obtain ⟨g1, p1⟩ := putL_good (l := tmps) (n := 0) g0 (by omega)
        obtain ⟨g2, p2⟩ := setPs_ok g1 hE
        have e0 : toL (ET.putL tmps 0 (newE tmps.length)) tmps.length = tmps := by rw [p1, p0]; simp
        rw [e0] at p2
        rw [← p2]
        split at x
        · rename_i E1 h1 he
          obtain ⟨g3, p3⟩ := execF_ok g2 he
          rw [p3]
          dsimp only
          split at x
          · rename_i j t p a b hg1
            rw [hg1]
            dsimp only
            split at x
            · rename_i y E2 h2 he2
              obtain ⟨g4, p4⟩ := execF_ok g3 he2
              rw [p4]
              exact x
            · cases x
          · cases x
        · cases x
      · cases x
    · cases x
  · cases x
end
noncomputable def BT.getK (t : BT) (n : Nat) : Option AFn := BT.rec (motive := fun _ => Option AFn) none (fun _ k v _ gl gr => sel (Nat.beq n k) (some v) (sel (Nat.blt n k) gl gr)) t
theorem BT.getK_eq {n : Nat} : ∀ {t : BT}, t.getK n = t.get n
  | .leaf => rfl
  | .node l k v r => by
    show sel (Nat.beq n k) (some v) (sel (Nat.blt n k) (l.getK n) (r.getK n)) = _
    simp only [BT.get, sel_eq, beqD, bltD, decide_eq_true_eq, BT.getK_eq (t := l), BT.getK_eq (t := r)]
noncomputable def orF (a b : Option (AV × AHeap)) : Option (AV × AHeap) := Option.rec (motive := fun _ => Option (AV × AHeap)) b some a
end Go.Proofs.YtlkfclgkinaibaaGreat
