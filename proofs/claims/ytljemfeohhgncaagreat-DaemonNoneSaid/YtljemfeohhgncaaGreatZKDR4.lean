/- BY PROGRAM (wip/tool/shake.py): own texts, one behind the other, without what is not needed. -/
import Derived.Control
import Derived.Calls
import Derived.KernelRfl
import Derived.Laws.Sem
import Derived.Laws.Cells
import Derived.Laws.World
import GoSem.Dispatch
import Derived.Laws.StructEq
import Derived.IntWalk
import Derived.WideKeyRuns
import Derived.Laws.BytesArg
import Derived.Orders
import Derived.ChangeArms
import Derived.OpenShut
import Derived.ChangeShapes
import Derived.ProofKit
import Derived.Test.YtljemfeohhgncaaGreatProg
import Derived.Test.YtljemfeohhgncaaGreatZKDR3

namespace Go.Proofs.YtljemfeohhgncaaGreat
/-- pantry/pantrylaw19.LoanNone -/
abbrev n_law19_LoanNone : Nat := 3
/-- live: [1, 10, 11] -/
def c_law19_LoanNone_L0 : ACode :=
 .seq (.region [I 12 (.bin .lss) [T 11, N 2]])
 (.seq (.cond (T 12)
 (.skip)
 (.exit 0))
 (.seq (.block 1 (.seq (.region [I 13 (.indexv 2 1 false) [T 10, T 11],
   I 5 (.mv) [T 13]])
 (.seq (.region [I 15 (.mv) [T 5],
   I 16 (.fieldAddr 1) [T 1],
   I 17 (.load1) [T 16],
   I 18 (.fieldAddr 2) [T 1],
   I 19 (.load1) [T 18],
   I 20 (.callv) [F 6, T 15, T 17, T 19],
   I 14 (.mv) [T 20],
   I 21 (.extract 0) [T 14],
   I 22 (.extract 1) [T 14],
   I 6 (.mv) [T 21],
   I 7 (.mv) [T 22]])
 (.seq (.region [I 24 (.mv) [T 5],
   I 25 (.fieldAddr 12) [T 1],
   I 26 (.load1) [T 25],
   I 27 (.fieldAddr 10) [T 1],
   I 28 (.load1) [T 27],
   I 29 (.callv) [F 7, T 24, T 26, T 28],
   I 23 (.mv) [T 29],
   I 30 (.extract 0) [T 23],
   I 31 (.extract 1) [T 23],
   I 8 (.mv) [T 30],
   I 9 (.mv) [T 31]])
 (.seq (.region (I 32 (.mv) [T 7] ::
   I 33 (.bin .neq) [T 32, N 1] ::
   I 34 (.mv) [T 33] ::
   IG 35 (.mv) [T 9] 34 false ::
   IG 36 (.bin .neq) [T 35, N 1] 34 false ::
   I 37 (.pick) [T 34, .lit (.bool true), T 36] ::
   I 38 (.mv) [T 37] ::
   IG 39 (.mv) [T 5] 38 false ::
   IG 40 (.fieldAddr 12) [T 1] 38 false ::
   IG 41 (.load1) [T 40] 38 false ::
   IG 42 (.callv) [F 8, T 39, T 41] 38 false ::
   IG 43 (.bin .neq) [T 42, N 1] 38 false ::
   I 44 (.pick) [T 38, .lit (.bool true), T 43] ::
   I 45 (.mv) [T 44] ::
   IG 46 (.mv) [T 5] 45 false ::
   IG 47 (.callv) [F 9, T 46] 45 false ::
   IG 48 (.lens) [T 47] 45 false ::
   IG 49 (.bin .neq) [T 48, N 0] 45 false ::
   I 50 (.pick) [T 45, .lit (.bool true), T 49] ::
   I 51 (.mv) [T 50] ::
   IG 52 (.mv) [T 5] 51 false ::
   IG 53 (.fieldAddr 12) [T 1] 51 false ::
   IG 54 (.load1) [T 53] 51 false ::
   IG 55 (.callv) [F 10, T 52, T 54] 51 false ::
   IG 56 (.bin .neq) [T 55, N (-1)] 51 false ::
   I 57 (.pick) [T 51, .lit (.bool true), T 56] ::
   []))
 (.cond (T 57)
 (.seq (.region [I 2 (.mv) [.lit (.bool false)]])
  (.ret))
 (.skip)))))))
 (.region [I 58 (.bin .add) [T 11, N 1],
   I 11 (.mv) [T 58]])))
def c_law19_LoanNone : AFn := ⟨64, [.tmp 2],
 .seq (.region [I 1 (.box 23 14) [T 0],
   I 2 (.mv) [.lit (.bool false)]])
 (.seq (.region [I 3 (.alloc 27 3 (.vals [.nilptr, (.int .i64 0), .nilmap])) []])
 (.seq (.seq (.region [I 10 (.build (.agg [.nilptr, .nilptr]) [(0, 1), (1, 1)]) [.lit .nilptr, T 3],
   I 11 (.mv) [N 0]])
 (.block 0 (.loop c_law19_LoanNone_L0)))
 (.seq (.region [I 59 (.callv) [F 11, .lit .nilptr, N 1],
   I 60 (.eqv false .ptr) [T 59, .lit .nilptr],
   I 61 (.mv) [T 60],
   IG 62 (.callv) [F 12] 61 true,
   I 63 (.pick) [T 61, T 62, .lit (.bool false)],
   I 2 (.mv) [T 63]])
 (.ret))))⟩
theorem t3 : trFn Tryz.prog Tryz.f3 = some c_law19_LoanNone := by kernel_rfl
/-- pantry/pantrylaw20.DaemonNone -/
abbrev n_law20_DaemonNone : Nat := 4
/-- live: [0, 6, 7] -/
def c_law20_DaemonNone_L0 : ACode :=
 .seq (.region [I 8 (.bin .lss) [T 7, N 2]])
 (.seq (.cond (T 8)
 (.skip)
 (.exit 0))
 (.seq (.block 1 (.seq (.region [I 9 (.indexv 2 1 false) [T 6, T 7],
   I 5 (.mv) [T 9]])
 (.seq (.region [I 10 (.mv) [T 5],
   I 11 (.mv) [T 0],
   I 12 (.callv) [F 13, T 10, T 11],
   I 13 (.bin .neq) [T 12, N 0],
   I 14 (.mv) [T 13],
   IG 15 (.mv) [T 5] 14 false,
   IG 16 (.mv) [T 0] 14 false,
   IG 17 (.callv) [F 14, T 15, T 16] 14 false,
   IG 18 (.bin .neq) [T 17, N 1] 14 false,
   I 19 (.pick) [T 14, .lit (.bool true), T 18],
   I 20 (.mv) [T 19],
   IG 21 (.mv) [T 5] 20 false,
   IG 22 (.callv) [F 15, T 21] 20 false,
   IG 23 (.lens) [T 22] 20 false,
   IG 24 (.mv) [T 5] 20 false,
   IG 25 (.callv) [F 16, T 24] 20 false,
   IG 26 (.lens) [T 25] 20 false,
   IG 27 (.bin .add) [T 23, T 26] 20 false,
   IG 28 (.bin .neq) [T 27, N 0] 20 false,
   I 29 (.pick) [T 20, .lit (.bool true), T 28]])
 (.cond (T 29)
 (.seq (.region [I 2 (.mv) [.lit (.bool false)]])
  (.ret))
 (.skip)))))
 (.region [I 30 (.bin .add) [T 7, N 1],
   I 7 (.mv) [T 30]])))
def c_law20_DaemonNone : AFn := ⟨36, [.tmp 2],
 .seq (.region [I 2 (.mv) [.lit (.bool false)]])
 (.seq (.region [I 3 (.alloc 42 2 (.vals [.nilptr, .nilptr])) []])
 (.seq (.seq (.region [I 6 (.build (.agg [.nilptr, .nilptr]) [(0, 1), (1, 1)]) [.lit .nilptr, T 3],
   I 7 (.mv) [N 0]])
 (.block 0 (.loop c_law20_DaemonNone_L0)))
 (.seq (.region [I 31 (.callv) [F 17, .lit .nilptr],
   I 32 (.eqv false .ptr) [T 31, .lit .nilptr],
   I 33 (.mv) [T 32],
   IG 34 (.callv) [F 18] 33 true,
   I 35 (.pick) [T 33, T 34, .lit (.bool false)],
   I 2 (.mv) [T 35]])
 (.ret))))⟩
theorem t4 : trFn Tryz.prog Tryz.f4 = some c_law20_DaemonNone := by kernel_rfl
/-- (*pantry/daemon.Daemon).Tick -/
abbrev n_daemon_Daemon_Tick : Nat := 13
/-- live: [0, 5, 15, 16] -/
def c_daemon_Daemon_Tick_L0 : ACode :=
 .seq (.region [I 17 (.bin .lss) [T 16, T 15]])
 (.seq (.cond (T 17)
 (.skip)
 (.exit 0))
 (.seq (.block 1 (.seq (.region [I 19 (.mv) [T 0],
   I 20 (.callv) [F 41, T 19],
   I 18 (.mv) [T 20],
   I 21 (.extract 0) [T 18],
   I 22 (.extract 1) [T 18],
   I 6 (.mv) [T 21],
   I 7 (.mv) [T 22]])
 (.seq (.seq (.region [I 23 (.mv) [T 7],
   I 24 (.un .not) [T 23]])
 (.cond (T 24)
 (.exit 0)
 (.skip)))
 (.seq (.region [I 25 (.mv) [T 6]])
 (.cond (T 25)
 (.region [I 26 (.mv) [T 5],
    I 27 (.bin .add) [T 26, N 1],
    I 5 (.mv) [T 27]])
 (.skip))))))
 (.region [I 28 (.bin .add) [T 16, N 1],
   I 16 (.mv) [T 28]])))
def c_daemon_Daemon_Tick : AFn := ⟨30, [.tmp 4],
 .seq (.region [I 4 (.mv) [N 0]])
 (.seq (.seq (.region [I 8 (.mv) [T 0],
   I 9 (.callv) [F 39, T 8],
   I 10 (.un .not) [T 9]])
 (.cond (T 10)
 (.seq (.region [I 4 (.mv) [N 0]])
  (.ret))
 (.skip)))
 (.seq (.region [I 11 (.mv) [T 0],
   I 12 (.callv) [F 40, T 11]])
 (.seq (.region [I 5 (.mv) [N 0]])
 (.seq (.seq (.region [I 13 (.mv) [T 1],
   I 14 (.max) [T 13, N 0],
   I 15 (.min) [T 14, N 4096],
   I 16 (.mv) [N 0]])
 (.block 0 (.loop c_daemon_Daemon_Tick_L0)))
 (.seq (.region [I 29 (.mv) [T 5],
   I 4 (.mv) [T 29]])
 (.ret))))))⟩
theorem t13 : trFn Tryz.prog Tryz.f13 = some c_daemon_Daemon_Tick := by kernel_rfl
/-- (*pantry/daemon.Daemon).Want -/
abbrev n_daemon_Daemon_Want : Nat := 14
/-- live: [0, 1, 5] -/
def c_daemon_Daemon_Want_L0 : ACode :=
 .seq (.seq (.region [I 17 (.mv) [T 0],
   I 18 (.nilCheck) [T 17],
   I 19 (.fieldAddr 0) [T 18],
   I 20 (.load1) [T 19],
   I 21 (.callv) [F 29, T 20],
   I 22 (.mv) [T 1],
   I 23 (.bin .lss) [T 21, T 22]])
 (.cond (T 23)
 (.skip)
 (.exit 0)))
 (.seq (.block 1 (.seq (.seq (.region [I 26 (.mv) [T 5],
   I 27 (.bin .eql) [T 26, N 0]])
 (.cond (T 27)
 (.seq (.region [I 4 (.mv) [N 5]])
  (.ret))
 (.skip)))
 (.region [I 28 (.mv) [T 0],
   I 29 (.callv) [F 13, T 28, N 1]])))
 (.region [I 24 (.mv) [T 5],
   I 25 (.bin .sub) [T 24, N 1],
   I 5 (.mv) [T 25]]))
def c_daemon_Daemon_Want : AFn := ⟨30, [.tmp 4],
 .seq (.region [I 4 (.mv) [N 0]])
 (.seq (.seq (.region [I 6 (.mv) [T 0],
   I 7 (.callv) [F 39, T 6],
   I 8 (.un .not) [T 7]])
 (.cond (T 8)
 (.seq (.region [I 4 (.mv) [N 1]])
  (.ret))
 (.skip)))
 (.seq (.seq (.region [I 9 (.mv) [T 0],
   I 10 (.nilCheck) [T 9],
   I 11 (.fieldAddr 0) [T 10],
   I 12 (.load1) [T 11],
   I 13 (.callv) [F 32, T 12],
   I 14 (.lens) [T 13],
   I 15 (.bin .mul) [N 4, T 14],
   I 16 (.bin .add) [T 15, N 4],
   I 5 (.mv) [T 16]])
 (.block 0 (.loop c_daemon_Daemon_Want_L0)))
 (.seq (.region [I 4 (.mv) [N 0]])
 (.ret))))⟩
theorem t14 : trFn Tryz.prog Tryz.f14 = some c_daemon_Daemon_Want := by kernel_rfl
/-- (*pantry/daemon.Daemon).Active -/
abbrev n_daemon_Daemon_Active : Nat := 15
def c_daemon_Daemon_Active : AFn := ⟨5, [.tmp 2],
 .seq (.region [I 2 (.mv) [.lit .nilsl]])
 (.seq (.region [I 3 (.mv) [T 0],
   I 4 (.callv) [F 42, T 3, N 0],
   I 2 (.mv) [T 4]])
 (.ret))⟩
theorem t15 : trFn Tryz.prog Tryz.f15 = some c_daemon_Daemon_Active := by kernel_rfl
/-- (*pantry/daemon.Daemon).Inactive -/
abbrev n_daemon_Daemon_Inactive : Nat := 16
def c_daemon_Daemon_Inactive : AFn := ⟨5, [.tmp 2],
 .seq (.region [I 2 (.mv) [.lit .nilsl]])
 (.seq (.region [I 3 (.mv) [T 0],
   I 4 (.callv) [F 42, T 3, N 1],
   I 2 (.mv) [T 4]])
 (.ret))⟩
theorem t16 : trFn Tryz.prog Tryz.f16 = some c_daemon_Daemon_Inactive := by kernel_rfl
/-- pantry/daemon.New -/
abbrev n_daemon_New : Nat := 17
def c_daemon_New : AFn := ⟨9, [.tmp 2],
 .seq (.region [I 2 (.mv) [.lit .nilptr]])
 (.seq (.seq (.region [I 3 (.mv) [T 0],
   I 4 (.eqv false .ptr) [T 3, .lit .nilptr]])
 (.cond (T 4)
 (.seq (.region [I 2 (.mv) [.lit .nilptr]])
  (.ret))
 (.skip)))
 (.seq (.region [I 5 (.mv) [T 0],
   I 6 (.callv) [F 43, N 2],
   I 7 (.build (.agg [.nilptr, .nilptr]) [(0, 1), (1, 1)]) [T 5, T 6],
   I 8 (.box 42 2) [T 7],
   I 2 (.mv) [T 8]])
 (.ret)))⟩
theorem t17 : trFn Tryz.prog Tryz.f17 = some c_daemon_New := by kernel_rfl
/-- pantry/pantrylaw20.lives -/
abbrev n_law20_lives : Nat := 18
/-- live: [1, 3, 41, 42, 43] -/
def c_law20_lives_L0 : ACode :=
 .seq (.region [I 44 (.bin .lss) [T 43, T 42]])
 (.seq (.cond (T 44)
 (.skip)
 (.exit 0))
 (.seq (.block 1 (.seq (.region [I 45 (.indexs 1) [T 41, T 43],
   I 46 (.load1) [T 45],
   I 5 (.mv) [T 46]])
 (.region [I 47 (.mv) [T 1],
   I 48 (.mv) [T 5],
   I 49 (.callv) [F 25, T 47, T 48]])))
 (.region [I 50 (.bin .add) [T 43, N 1],
   I 43 (.mv) [T 50]])))
def c_law20_lives : AFn := ⟨60, [.tmp 0],
 .seq (.region [I 0 (.mv) [.lit (.bool false)]])
 (.seq (.region [I 7 (.build (.agg [(.int .i64 0), (.int .i64 0), (.int .i64 0), (.int .i64 0)]) [(0, 1), (2, 1)]) [N 20, N 4],
   I 8 (.callv) [F 33, T 7, .lit .nilsl],
   I 6 (.mv) [T 8],
   I 9 (.extract 0) [T 6],
   I 10 (.extract 1) [T 6],
   I 1 (.mv) [T 9],
   I 2 (.mv) [T 10]])
 (.seq (.region [I 11 (.mv) [T 1],
   I 12 (.callv) [F 17, T 11],
   I 3 (.mv) [T 12]])
 (.seq (.seq (.region (I 13 (.mv) [T 2] ::
   I 14 (.bin .neq) [T 13, N 0] ::
   I 15 (.mv) [T 14] ::
   IG 16 (.mv) [T 3] 15 false ::
   IG 17 (.eqv false .ptr) [T 16, .lit .nilptr] 15 false ::
   I 18 (.pick) [T 15, .lit (.bool true), T 17] ::
   I 19 (.mv) [T 18] ::
   IG 20 (.mv) [T 1] 19 false ::
   IG 21 (.build (.agg [(.int .i64 0), (.int .i64 0), (.int .i64 0), (.int .i64 0), (.int .i64 0), (.bool false), (.int .i64 0), (.int .i64 0), (.bool false), (.int .i64 0), (.int .i64 0), (.int .i64 0), (.int .i64 0), (.int .i64 0)]) [(0, 1), (1, 1), (2, 1), (3, 1), (4, 1)]) [N 1, N 1, N (-1), N 2, N 3] 19 false ::
   IG 22 (.callv) [F 24, T 20, T 21] 19 false ::
   IG 23 (.field 0 1 false) [T 22] 19 false ::
   IG 24 (.bin .neq) [T 23, N 0] 19 false ::
   I 25 (.pick) [T 19, .lit (.bool true), T 24] ::
   I 26 (.mv) [T 25] ::
   IG 27 (.mv) [T 1] 26 false ::
   IG 28 (.build (.agg [(.int .i64 0), (.int .i64 0), (.int .i64 0), (.int .i64 0), (.int .i64 0), (.bool false), (.int .i64 0), (.int .i64 0), (.bool false), (.int .i64 0), (.int .i64 0), (.int .i64 0), (.int .i64 0), (.int .i64 0)]) [(0, 1), (1, 1), (11, 1)]) [N 9, N 1, N 7] 26 false ::
   IG 29 (.callv) [F 24, T 27, T 28] 26 false ::
   IG 30 (.field 0 1 false) [T 29] 26 false ::
   IG 31 (.bin .neq) [T 30, N 0] 26 false ::
   I 32 (.pick) [T 26, .lit (.bool true), T 31] ::
   I 33 (.mv) [T 32] ::
   IG 34 (.mv) [T 1] 33 false ::
   IG 35 (.build (.agg [(.int .i64 0), (.int .i64 0), (.int .i64 0), (.int .i64 0), (.int .i64 0), (.bool false), (.int .i64 0), (.int .i64 0), (.bool false), (.int .i64 0), (.int .i64 0), (.int .i64 0), (.int .i64 0), (.int .i64 0)]) [(0, 1), (1, 1), (2, 1), (11, 1)]) [N 9, N 1, N 1, N 7] 33 false ::
   IG 36 (.callv) [F 24, T 34, T 35] 33 false ::
   IG 37 (.field 0 1 false) [T 36] 33 false ::
   IG 38 (.bin .neq) [T 37, N 0] 33 false ::
   I 39 (.pick) [T 33, .lit (.bool true), T 38] ::
   []))
 (.cond (T 39)
 (.seq (.region [I 0 (.mv) [.lit (.bool false)]])
  (.ret))
 (.skip)))
 (.seq (.seq (.region [I 40 (.mv) [T 1],
   I 41 (.callv) [F 32, T 40],
   I 42 (.lens) [T 41],
   I 43 (.mv) [N 0]])
 (.block 0 (.loop c_law20_lives_L0)))
 (.seq (.region [I 51 (.mv) [T 3],
   I 52 (.callv) [F 13, T 51, N 4],
   I 53 (.bin .eql) [T 52, N 2],
   I 54 (.mv) [T 53],
   IG 55 (.mv) [T 1] 54 true,
   IG 56 (.callv) [F 32, T 55] 54 true,
   IG 57 (.lens) [T 56] 54 true,
   IG 58 (.bin .eql) [T 57, N 0] 54 true,
   I 59 (.pick) [T 54, T 58, .lit (.bool false)],
   I 0 (.mv) [T 59]])
 (.ret))))))⟩
theorem t18 : trFn Tryz.prog Tryz.f18 = some c_law20_lives := by kernel_rfl
/-- (*pantry/kern.Kernel).Do -/
abbrev n_kern_Kernel_Do : Nat := 24
def c_kern_Kernel_Do : AFn := ⟨81, [.cell 4 (.loadn 2)],
 .seq (.region [I 3 (.box 23 14) [T 1],
   I 4 (.alloc 73 2 (.vals [(.int .i64 0), (.int .i64 0)])) []])
 (.seq (.seq (.region [I 6 (.mv) [T 0],
   I 7 (.callv) [F 44, T 6],
   I 8 (.un .not) [T 7]])
 (.cond (T 8)
 (.seq (.region [I 9 (.callv) [F 72, N 1],
    J (.store 2) [T 4, T 9]])
  (.ret))
 (.skip)))
 (.seq (.seq (.region [I 10 (.fieldAddr 0) [T 3],
   I 11 (.load1) [T 10]])
 (.block 0 (.seq (.seq (.region [I 13 (.bin .eql) [T 11, N 15],
   I 12 (.mv) [T 13]])
 (.cond (T 12)
 (.skip)
 (.seq (.region [I 14 (.bin .eql) [T 11, N 16],
    I 12 (.mv) [T 14]])
  (.cond (T 12)
  (.skip)
  (.seq (.region [I 15 (.bin .eql) [T 11, N 17],
     I 12 (.mv) [T 15]])
   (.cond (T 12)
   (.skip)
   (.region [I 16 (.bin .eql) [T 11, N 18],
      I 12 (.mv) [T 16]])))))))
 (.cond (T 12)
 (.seq (.region [I 17 (.mv) [T 0],
    I 18 (.loadn 14) [T 3],
    I 19 (.callv) [F 73, T 17, T 18],
    J (.store 2) [T 4, T 19]])
  (.ret))
 (.skip)))))
 (.seq (.seq (.region [I 20 (.fieldAddr 0) [T 3],
   I 21 (.load1) [T 20],
   I 22 (.bin .lss) [T 21, N 1],
   I 23 (.mv) [T 22],
   IG 24 (.fieldAddr 0) [T 3] 23 false,
   IG 25 (.load1) [T 24] 23 false,
   IG 26 (.bin .gtr) [T 25, N 11] 23 false,
   IG 27 (.mv) [T 26] 23 false,
   IG 28 (.fieldAddr 0) [T 3] 27 true,
   IG 29 (.load1) [T 28] 27 true,
   IG 30 (.bin .neq) [T 29, N 20] 27 true,
   IG 31 (.pick) [T 27, T 30, .lit (.bool false)] 23 false,
   I 32 (.pick) [T 23, .lit (.bool true), T 31]])
 (.cond (T 32)
 (.seq (.region [I 33 (.callv) [F 72, N 2],
    J (.store 2) [T 4, T 33]])
  (.ret))
 (.skip)))
 (.seq (.draw [[⟨0, I 34 (.mv) [T 0], [], false⟩,
   ⟨1, I 35 (.nilCheck) [T 34], [], false⟩,
   ⟨2, I 36 (.fieldAddr 9) [T 35], [], false⟩,
   ⟨3, I 37 (.load1) [T 36], [], false⟩,
   ⟨4, I 38 (.fieldAddr 1) [T 3], [], false⟩,
   ⟨5, I 39 (.load1) [T 38], [], false⟩,
   ⟨6, I 40 (.lookup (.scal .int) .nilptr false) [T 37, T 39], [], false⟩,
   ⟨7, I 5 (.mv) [T 40], [], false⟩]])
 (.seq (.seq (.region [I 41 (.mv) [T 5],
   I 42 (.eqv false .ptr) [T 41, .lit .nilptr]])
 (.cond (T 42)
 (.seq (.region [I 43 (.callv) [F 72, N 7],
    J (.store 2) [T 4, T 43]])
  (.ret))
 (.skip)))
 (.seq (.seq (.region [I 44 (.fieldAddr 0) [T 3],
   I 45 (.load1) [T 44]])
 (.block 1 (.seq (.region [I 47 (.bin .eql) [T 45, N 1],
   I 46 (.mv) [T 47]])
 (.cond (T 46)
 (.seq (.region [I 48 (.mv) [T 0],
    I 49 (.mv) [T 5],
    I 50 (.loadn 14) [T 3],
    I 51 (.callv) [F 74, T 48, T 49, T 50],
    J (.store 2) [T 4, T 51]])
  (.ret))
 (.seq (.seq (.region [I 53 (.bin .eql) [T 45, N 8],
    I 52 (.mv) [T 53]])
  (.cond (T 52)
  (.skip)
  (.region [I 54 (.bin .eql) [T 45, N 9],
     I 52 (.mv) [T 54]])))
  (.cond (T 52)
  (.seq (.region [I 55 (.mv) [T 0],
     I 56 (.mv) [T 5],
     I 57 (.loadn 14) [T 3],
     I 58 (.callv) [F 75, T 55, T 56, T 57],
     J (.store 2) [T 4, T 58]])
   (.ret))
  (.seq (.region [I 60 (.bin .eql) [T 45, N 10],
     I 59 (.mv) [T 60]])
   (.cond (T 59)
   (.seq (.region [I 61 (.mv) [T 0],
      I 62 (.mv) [T 5],
      I 63 (.callv) [F 76, T 61, T 62],
      J (.store 2) [T 4, T 63]])
    (.ret))
   (.seq (.region [I 65 (.bin .eql) [T 45, N 11],
      I 64 (.mv) [T 65]])
    (.cond (T 64)
    (.seq (.region [I 66 (.mv) [T 0],
       I 67 (.mv) [T 5],
       I 68 (.callv) [F 77, T 66, T 67]])
     (.seq (.region [I 69 (.build (.agg [(.int .i64 0), (.int .i64 0)]) []) [],
       J (.store 2) [T 4, T 69]])
     (.ret)))
    (.seq (.region [I 71 (.bin .eql) [T 45, N 20],
       I 70 (.mv) [T 71]])
     (.cond (T 70)
     (.seq (.region [I 72 (.mv) [T 0],
        I 73 (.mv) [T 5],
        I 74 (.loadn 14) [T 3],
        I 75 (.callv) [F 78, T 72, T 73, T 74],
        J (.store 2) [T 4, T 75]])
      (.ret))
     (.skip)))))))))))))
 (.seq (.region [I 76 (.mv) [T 0],
   I 77 (.mv) [T 5],
   I 78 (.loadn 14) [T 3],
   I 79 (.callv) [F 79, T 76, T 77, T 78],
   I 80 (.callv) [F 72, T 79],
   J (.store 2) [T 4, T 80]])
 (.ret))))))))⟩
theorem t24 : trFn Tryz.prog Tryz.f24 = some c_kern_Kernel_Do := by kernel_rfl
/-- (*pantry/kern.Kernel).Seen -/
abbrev n_kern_Kernel_Seen : Nat := 25
/-- live: [3, 9] -/
def c_kern_Kernel_Seen_A1 : ACode :=
 .seq (.region [I 10 (.mv) [T 35]])
 (.region [I 11 (.alloc 139 2 (.vals [(.int .i64 0), (.int .i64 0)])) [],
   J (.store 2) [T 11, T 36]])
def c_kern_Kernel_Seen_B1 : ACode :=
 .block 3 (.seq (.region [I 37 (.fieldAddr 1) [T 11],
   I 38 (.load1) [T 37],
   I 39 (.load1) [T 3],
   I 40 (.bin .eql) [T 38, T 39],
   I 41 (.mv) [T 40],
   IG 42 (.fieldAddr 0) [T 11] 41 true,
   IG 43 (.load1) [T 42] 41 true,
   IG 44 (.bin .and) [T 43, N 64] 41 true,
   IG 45 (.bin .gtr) [T 44, N 0] 41 true,
   I 46 (.pick) [T 41, T 45, .lit (.bool false)]])
 (.cond (T 46)
 (.region [I 47 (.load1) [T 9],
    I 48 (.mv) [T 10],
    I 49 (.bslice 3 1 1 (.vals [(.int .i64 0)]) [0]) [T 48],
    I 50 (.append 3 1 8 (.vals [(.int .i64 0)])) [T 47, T 49],
    J (.store 1) [T 9, T 50]])
 (.skip)))
/-- live: [0, 3, 5, 7, 8, 18, 19, 20, 51, 52, 53] -/
def c_kern_Kernel_Seen_L2 : ACode :=
 .seq (.region [I 54 (.bin .lss) [T 53, T 52]])
 (.seq (.cond (T 54)
 (.skip)
 (.exit 4))
 (.seq (.block 5 (.seq (.region [I 55 (.indexs 1) [T 51, T 53],
   I 56 (.load1) [T 55],
   I 13 (.mv) [T 56]])
 (.seq (.region [I 5 (.mv) [.lit (.bool true)]])
 (.seq (.region [I 57 (.mv) [T 8],
   I 58 (.nilCheck) [T 57],
   I 59 (.fieldAddr 2) [T 58],
   I 60 (.load1) [T 59],
   I 61 (.mv) [T 13],
   I 62 (.callv) [F 80, T 60, T 61, N 64]])
 (.region [I 63 (.mv) [T 0],
   I 64 (.nilCheck) [T 63],
   I 65 (.fieldAddr 8) [T 64],
   I 66 (.load1) [T 65],
   I 67 (.mv) [T 7],
   I 68 (.mv) [T 13],
   I 69 (.build (.agg [(.int .i64 0), (.int .i64 0)]) [(0, 1), (1, 1)]) [T 67, T 68],
   I 70 (.callv) [F 81, T 66, T 69]])))))
 (.region [I 71 (.bin .add) [T 53, N 1],
   I 53 (.mv) [T 71]])))
/-- live: [0, 3, 5, 18, 19, 20] -/
def c_kern_Kernel_Seen_L0 : ACode :=
 .seq (.region [I 21 (.bin .lss) [T 20, T 19]])
 (.seq (.cond (T 21)
 (.skip)
 (.exit 0))
 (.seq (.block 1 (.seq (.region [I 22 (.indexs 1) [T 18, T 20],
   I 23 (.load1) [T 22],
   I 7 (.mv) [T 23]])
 (.seq (.region [I 24 (.mv) [T 0],
   I 25 (.nilCheck) [T 24],
   I 26 (.fieldAddr 9) [T 25],
   I 27 (.load1) [T 26],
   I 28 (.mv) [T 7],
   I 29 (.lookup (.scal .int) .nilptr false) [T 27, T 28],
   I 8 (.mv) [T 29]])
 (.seq (.region [I 9 (.alloc 34 1 (.vals [.nilsl])) []])
 (.seq (.seq (.region [I 30 (.mv) [T 8],
   I 31 (.nilCheck) [T 30],
   I 32 (.fieldAddr 2) [T 31],
   I 33 (.load1) [T 32],
   I 34 (.callv) [F 68, T 33]])
 (.block 2 (.rfun (T 34) [35, 36] c_kern_Kernel_Seen_A1 c_kern_Kernel_Seen_B1)))
 (.seq (.region [I 51 (.load1) [T 9],
   I 52 (.lens) [T 51],
   I 53 (.mv) [N 0]])
 (.block 4 (.loop c_kern_Kernel_Seen_L2))))))))
 (.region [I 72 (.bin .add) [T 20, N 1],
   I 20 (.mv) [T 72]])))
def c_kern_Kernel_Seen : AFn := ⟨74, [.tmp 4],
 .seq (.region [I 3 (.box 3 1) [T 1],
   I 4 (.mv) [.lit (.bool false)]])
 (.seq (.seq (.region [I 14 (.mv) [T 0],
   I 15 (.callv) [F 44, T 14],
   I 16 (.un .not) [T 15]])
 (.cond (T 16)
 (.seq (.region [I 4 (.mv) [.lit (.bool false)]])
  (.ret))
 (.skip)))
 (.seq (.region [I 5 (.mv) [.lit (.bool false)]])
 (.seq (.seq (.region [I 17 (.mv) [T 0],
   I 18 (.callv) [F 30, T 17],
   I 19 (.lens) [T 18],
   I 20 (.mv) [N 0]])
 (.block 0 (.loop c_kern_Kernel_Seen_L0)))
 (.seq (.region [I 73 (.mv) [T 5],
   I 4 (.mv) [T 73]])
 (.ret)))))⟩
theorem t25 : trFn Tryz.prog Tryz.f25 = some c_kern_Kernel_Seen := by kernel_rfl
/-- (*pantry/kern.Kernel).Evict -/
abbrev n_kern_Kernel_Evict : Nat := 26
def c_kern_Kernel_Evict : AFn := ⟨139, [.tmp 4],
 .seq (.region [I 4 (.mv) [N 0]])
 (.seq (.seq (.region [I 13 (.mv) [T 0],
   I 14 (.callv) [F 44, T 13],
   I 15 (.un .not) [T 14]])
 (.cond (T 15)
 (.seq (.region [I 4 (.mv) [N 1]])
  (.ret))
 (.skip)))
 (.seq (.region [I 17 (.mv) [T 0],
   I 18 (.nilCheck) [T 17],
   I 19 (.fieldAddr 1) [T 18],
   I 20 (.load1) [T 19],
   I 21 (.mv) [T 1],
   I 22 (.callv) [F 56, T 20, T 21],
   I 16 (.mv) [T 22],
   I 23 (.extract 0) [T 16],
   I 24 (.extract 1) [T 16],
   I 5 (.alloc 114 5 (.vals [(.int .i64 0), (.int .i64 0), (.int .i64 0), (.int .i64 0), (.int .i64 0)])) [],
   J (.store 5) [T 5, T 23],
   I 6 (.mv) [T 24]])
 (.seq (.block 0 (.seq (.region [I 26 (.mv) [T 6],
   I 27 (.un .not) [T 26],
   I 28 (.mv) [T 27],
   IG 29 (.fieldAddr 0) [T 5] 28 false,
   IG 30 (.load1) [T 29] 28 false,
   IG 31 (.bin .neq) [T 30, N 2] 28 false,
   IG 32 (.mv) [T 31] 28 false,
   IG 33 (.fieldAddr 0) [T 5] 32 true,
   IG 34 (.load1) [T 33] 32 true,
   IG 35 (.bin .neq) [T 34, N 3] 32 true,
   IG 36 (.pick) [T 32, T 35, .lit (.bool false)] 28 false,
   I 37 (.pick) [T 28, .lit (.bool true), T 36],
   I 25 (.mv) [T 37]])
 (.cond (T 25)
 (.seq (.region [I 4 (.mv) [N 7]])
  (.ret))
 (.seq (.region [I 39 (.fieldAddr 4) [T 5],
    I 40 (.load1) [T 39],
    I 41 (.bin .gtr) [T 40, N 0],
    I 42 (.mv) [T 41],
    IG 43 (.mv) [T 0] 42 false,
    IG 44 (.loadn 5) [T 5] 42 false,
    IG 45 (.callv) [F 82, T 43, T 44] 42 false,
    I 46 (.pick) [T 42, .lit (.bool true), T 45],
    I 38 (.mv) [T 46]])
  (.cond (T 38)
  (.seq (.region [I 4 (.mv) [N 8]])
   (.ret))
  (.skip))))))
 (.seq (.region [I 7 (.mv) [N 0]])
 (.seq (.seq (.region [I 47 (.fieldAddr 0) [T 5],
   I 48 (.load1) [T 47],
   I 49 (.bin .eql) [T 48, N 3]])
 (.cond (T 49)
 (.draw [[⟨0, I 50 (.mv) [T 0], [], false⟩,
    ⟨1, I 51 (.nilCheck) [T 50], [], false⟩,
    ⟨2, I 52 (.fieldAddr 7) [T 51], [], false⟩,
    ⟨3, I 53 (.load1) [T 52], [], false⟩,
    ⟨4, I 54 (.fieldAddr 1) [T 5], [], false⟩,
    ⟨5, I 55 (.load1) [T 54], [], false⟩,
    ⟨6, I 56 (.callv) [F 66, T 53, T 55], [], false⟩,
    ⟨7, I 7 (.mv) [T 56], [], false⟩]])
 (.skip)))
 (.seq (.seq (.region [I 57 (.mv) [T 7],
   I 58 (.bin .gtr) [T 57, N 0],
   I 59 (.mv) [T 58],
   IG 60 (.mv) [T 7] 59 true,
   IG 61 (.bin .leq) [T 60, N 1000] 59 true,
   I 62 (.pick) [T 59, T 61, .lit (.bool false)]])
 (.cond (T 62)
 (.seq (.draw [[⟨0, I 64 (.mv) [T 0], [], false⟩,
    ⟨1, I 65 (.nilCheck) [T 64], [], false⟩,
    ⟨2, I 66 (.fieldAddr 7) [T 65], [], false⟩,
    ⟨3, I 67 (.load1) [T 66], [], false⟩,
    ⟨4, I 68 (.fieldAddr 1) [T 5], [], false⟩,
    ⟨5, I 69 (.load1) [T 68], [], false⟩,
    ⟨6, I 70 (.fieldAddr 2) [T 5], [], false⟩,
    ⟨7, I 71 (.load1) [T 70], [], false⟩,
    ⟨8, I 72 (.callv) [F 83, T 67, T 69, T 71], [], false⟩,
    ⟨9, I 63 (.mv) [T 72], [], false⟩,
    ⟨10, I 73 (.extract 0) [T 63], [], false⟩,
    ⟨11, I 74 (.extract 1) [T 63], [], false⟩,
    ⟨12, I 8 (.alloc 128 3 (.vals [(.int .i64 0), (.int .i64 0), (.bool false)])) [], [(3, I 67 (.load1) [T 66]), (5, I 69 (.load1) [T 68]), (7, I 71 (.load1) [T 70])], false⟩,
    ⟨13, J (.store 3) [T 8, T 73], [], false⟩,
    ⟨14, I 9 (.mv) [T 74], [], false⟩],
[⟨0, I 64 (.mv) [T 0], [], false⟩,
    ⟨1, I 65 (.nilCheck) [T 64], [], false⟩,
    ⟨2, I 66 (.fieldAddr 7) [T 65], [], false⟩,
    ⟨3, I 67 (.load1) [T 66], [], false⟩,
    ⟨4, I 68 (.fieldAddr 1) [T 5], [], false⟩,
    ⟨5, I 69 (.load1) [T 68], [], false⟩,
    ⟨6, I 70 (.fieldAddr 2) [T 5], [], false⟩,
    ⟨7, I 71 (.load1) [T 70], [], false⟩,
    ⟨12, I 8 (.alloc 128 3 (.vals [(.int .i64 0), (.int .i64 0), (.bool false)])) [], [(3, I 67 (.load1) [T 66]), (5, I 69 (.load1) [T 68]), (7, I 71 (.load1) [T 70])], false⟩,
    ⟨8, I 72 (.callv) [F 83, T 67, T 69, T 71], [], false⟩,
    ⟨9, I 63 (.mv) [T 72], [], false⟩,
    ⟨10, I 73 (.extract 0) [T 63], [], false⟩,
    ⟨11, I 74 (.extract 1) [T 63], [], false⟩,
    ⟨13, J (.store 3) [T 8, T 73], [], false⟩,
    ⟨14, I 9 (.mv) [T 74], [], false⟩]])
  (.seq (.seq (.region [I 75 (.fieldAddr 2) [T 8],
    I 76 (.load1) [T 75]])
  (.cond (T 76)
  (.seq (.draw [[⟨0, I 77 (.mv) [T 0], [], false⟩,
     ⟨1, I 78 (.nilCheck) [T 77], [], false⟩,
     ⟨2, I 79 (.fieldAddr 4) [T 78], [], false⟩,
     ⟨3, I 80 (.load1) [T 79], [], false⟩,
     ⟨4, I 81 (.mv) [T 7], [], false⟩,
     ⟨5, I 82 (.fieldAddr 2) [T 5], [], false⟩,
     ⟨6, I 83 (.load1) [T 82], [], false⟩,
     ⟨7, I 84 (.mv) [T 0], [], false⟩,
     ⟨8, I 85 (.nilCheck) [T 84], [], false⟩,
     ⟨9, I 86 (.fieldAddr 0) [T 85], [], false⟩,
     ⟨10, I 87 (.load1) [T 86], [], false⟩,
     ⟨11, I 88 (.mv) [T 1], [], false⟩,
     ⟨12, I 89 (.callv) [F 85, T 87, T 88], [(3, I 80 (.load1) [T 79]), (6, I 83 (.load1) [T 82])], false⟩,
     ⟨13, I 90 (.callv) [F 84, T 80, T 81, T 83, T 89], [], false⟩,
     ⟨14, I 10 (.mv) [T 90], [], false⟩]])
   (.seq (.region [I 91 (.mv) [T 10],
     I 92 (.bin .neq) [T 91, N 0]])
   (.cond (T 92)
   (.seq (.region [I 93 (.mv) [T 10],
      I 4 (.mv) [T 93]])
    (.ret))
   (.skip))))
  (.skip)))
  (.seq (.region [I 94 (.mv) [T 0],
    I 95 (.mv) [T 1],
    I 96 (.callv) [F 86, T 94, T 95]])
  (.seq (.draw [[⟨0, I 97 (.mv) [T 0], [], false⟩,
    ⟨1, I 98 (.nilCheck) [T 97], [], false⟩,
    ⟨2, I 99 (.fieldAddr 7) [T 98], [], false⟩,
    ⟨3, I 100 (.load1) [T 99], [], false⟩,
    ⟨4, I 101 (.fieldAddr 1) [T 5], [], false⟩,
    ⟨5, I 102 (.load1) [T 101], [], false⟩,
    ⟨6, I 103 (.fieldAddr 2) [T 5], [], false⟩,
    ⟨7, I 104 (.load1) [T 103], [], false⟩,
    ⟨8, I 105 (.callv) [F 87, T 100, T 102, T 104], [], false⟩]])
  (.seq (.region [I 4 (.mv) [N 0]])
  (.ret))))))
 (.skip)))
 (.seq (.region [I 107 (.mv) [T 0],
   I 108 (.mv) [T 1],
   I 109 (.callv) [F 88, T 107, T 108],
   I 106 (.mv) [T 109],
   I 110 (.extract 0) [T 106],
   I 111 (.extract 1) [T 106],
   I 11 (.mv) [T 110],
   I 12 (.mv) [T 111]])
 (.seq (.seq (.region [I 112 (.mv) [T 12],
   I 113 (.bin .neq) [T 112, N 0]])
 (.cond (T 113)
 (.seq (.region [I 114 (.mv) [T 12],
    I 4 (.mv) [T 114]])
  (.ret))
 (.skip)))
 (.seq (.region [I 115 (.mv) [T 0],
   I 116 (.mv) [T 1],
   I 117 (.callv) [F 86, T 115, T 116]])
 (.seq (.seq (.region [I 118 (.mv) [T 7],
   I 119 (.bin .gtr) [T 118, N 0]])
 (.cond (T 119)
 (.draw [[⟨0, I 120 (.mv) [T 0], [], false⟩,
    ⟨1, I 121 (.nilCheck) [T 120], [], false⟩,
    ⟨2, I 122 (.fieldAddr 7) [T 121], [], false⟩,
    ⟨3, I 123 (.load1) [T 122], [], false⟩,
    ⟨4, I 124 (.fieldAddr 1) [T 5], [], false⟩,
    ⟨5, I 125 (.load1) [T 124], [], false⟩,
    ⟨6, I 126 (.fieldAddr 2) [T 5], [], false⟩,
    ⟨7, I 127 (.load1) [T 126], [], false⟩,
    ⟨8, I 128 (.mv) [T 11], [], false⟩,
    ⟨9, I 129 (.build (.agg [(.int .i64 0), (.int .i64 0), (.bool false)]) [(0, 1), (1, 1)]) [N (-1), T 128], [], false⟩,
    ⟨10, I 130 (.callv) [F 89, T 123, T 125, T 127, T 129], [], false⟩]])
 (.draw [[⟨0, I 131 (.mv) [T 0], [], false⟩,
    ⟨1, I 132 (.nilCheck) [T 131], [], false⟩,
    ⟨2, I 133 (.fieldAddr 5) [T 132], [], false⟩,
    ⟨3, I 134 (.load1) [T 133], [], false⟩,
    ⟨4, I 135 (.fieldAddr 1) [T 5], [], false⟩,
    ⟨5, I 136 (.load1) [T 135], [], false⟩,
    ⟨6, I 137 (.mv) [T 11], [], false⟩,
    ⟨7, I 138 (.callv) [F 90, T 134, T 136, N (-1), T 137], [], false⟩]])))
 (.seq (.region [I 4 (.mv) [N 0]])
 (.ret))))))))))))⟩
theorem t26 : trFn Tryz.prog Tryz.f26 = some c_kern_Kernel_Evict := by kernel_rfl
/-- (*pantry/kern.Kernel).Procs -/
abbrev n_kern_Kernel_Procs : Nat := 30
def c_kern_Kernel_Procs : AFn := ⟨12, [.tmp 2],
 .seq (.region [I 2 (.mv) [.lit .nilsl]])
 (.seq (.seq (.region [I 3 (.mv) [T 0],
   I 4 (.callv) [F 44, T 3],
   I 5 (.un .not) [T 4]])
 (.cond (T 5)
 (.seq (.region [I 2 (.mv) [.lit .nilsl]])
  (.ret))
 (.skip)))
 (.seq (.region [I 6 (.mv) [T 0],
   I 7 (.nilCheck) [T 6],
   I 8 (.fieldAddr 9) [T 7],
   I 9 (.load1) [T 8],
   I 10 (.callv) [F 95, T 9],
   I 11 (.callv) [F 37, T 10],
   I 2 (.mv) [T 11]])
 (.ret)))⟩
theorem t30 : trFn Tryz.prog Tryz.f30 = some c_kern_Kernel_Procs := by kernel_rfl
/-- (*pantry/kern.Kernel).Resident -/
abbrev n_kern_Kernel_Resident : Nat := 32
/-- live: [0, 3, 14, 15] -/
def c_kern_Kernel_Resident_L0 : ACode :=
 .seq (.region [I 16 (.bin .lss) [T 15, T 14]])
 (.seq (.cond (T 16)
 (.skip)
 (.exit 0))
 (.seq (.block 1 (.seq (.region [I 17 (.mv) [T 15],
   I 4 (.mv) [T 17]])
 (.seq (.region [I 19 (.mv) [T 0],
   I 20 (.nilCheck) [T 19],
   I 21 (.fieldAddr 1) [T 20],
   I 22 (.load1) [T 21],
   I 23 (.mv) [T 4],
   I 24 (.callv) [F 56, T 22, T 23],
   I 18 (.mv) [T 24],
   I 25 (.extract 0) [T 18],
   I 26 (.extract 1) [T 18],
   I 5 (.alloc 114 5 (.vals [(.int .i64 0), (.int .i64 0), (.int .i64 0), (.int .i64 0), (.int .i64 0)])) [],
   J (.store 5) [T 5, T 25],
   I 6 (.mv) [T 26]])
 (.seq (.region [I 27 (.fieldAddr 0) [T 5],
   I 28 (.load1) [T 27],
   I 29 (.bin .eql) [T 28, N 2],
   I 30 (.mv) [T 29],
   IG 31 (.fieldAddr 0) [T 5] 30 false,
   IG 32 (.load1) [T 31] 30 false,
   IG 33 (.bin .eql) [T 32, N 3] 30 false,
   I 34 (.pick) [T 30, .lit (.bool true), T 33]])
 (.cond (T 34)
 (.region [I 35 (.mv) [T 3],
    I 36 (.mv) [T 4],
    I 37 (.bslice 3 1 1 (.vals [(.int .i64 0)]) [0]) [T 36],
    I 38 (.append 3 1 8 (.vals [(.int .i64 0)])) [T 35, T 37],
    I 3 (.mv) [T 38]])
 (.skip))))))
 (.region [I 39 (.bin .add) [T 15, N 1],
   I 15 (.mv) [T 39]])))
def c_kern_Kernel_Resident : AFn := ⟨41, [.tmp 2],
 .seq (.region [I 2 (.mv) [.lit .nilsl]])
 (.seq (.seq (.region [I 7 (.mv) [T 0],
   I 8 (.callv) [F 44, T 7],
   I 9 (.un .not) [T 8]])
 (.cond (T 9)
 (.seq (.region [I 2 (.mv) [.lit .nilsl]])
  (.ret))
 (.skip)))
 (.seq (.region [I 3 (.mv) [.lit .nilsl]])
 (.seq (.seq (.region [I 10 (.mv) [T 0],
   I 11 (.nilCheck) [T 10],
   I 12 (.fieldAddr 0) [T 11],
   I 13 (.load1) [T 12],
   I 14 (.callv) [F 58, T 13],
   I 15 (.mv) [N 0]])
 (.block 0 (.loop c_kern_Kernel_Resident_L0)))
 (.seq (.region [I 40 (.mv) [T 3],
   I 2 (.mv) [T 40]])
 (.ret)))))⟩
theorem t32 : trFn Tryz.prog Tryz.f32 = some c_kern_Kernel_Resident := by kernel_rfl
/-- pantry/kern.New -/
abbrev n_kern_New : Nat := 33
/-- live: [6, 39, 40, 41] -/
def c_kern_New_L0 : ACode :=
 .seq (.region [I 42 (.bin .lss) [T 41, T 40]])
 (.seq (.cond (T 42)
 (.skip)
 (.exit 0))
 (.seq (.block 1 (.seq (.region [I 43 (.indexs 1) [T 39, T 41],
   I 44 (.load1) [T 43],
   I 8 (.mv) [T 44]])
 (.region [I 45 (.mv) [T 6],
   I 46 (.nilCheck) [T 45],
   I 47 (.fieldAddr 4) [T 46],
   I 48 (.load1) [T 47],
   I 49 (.mv) [T 8],
   I 50 (.callv) [F 107, T 48, T 49]])))
 (.region [I 51 (.bin .add) [T 41, N 1],
   I 41 (.mv) [T 51]])))
def c_kern_New : AFn := ⟨61, [.tmp 4, .tmp 5],
 .seq (.region [I 2 (.box 82 4) [T 0],
   I 4 (.mv) [.lit .nilptr],
   I 5 (.mv) [N 0]])
 (.seq (.seq (.region [I 11 (.loadn 4) [T 2],
   I 12 (.mv) [T 1],
   I 13 (.callv) [F 97, T 11, T 12],
   I 14 (.un .not) [T 13]])
 (.cond (T 14)
 (.seq (.region [I 4 (.mv) [.lit .nilptr],
    I 5 (.mv) [N 2]])
  (.ret))
 (.skip)))
 (.seq (.draw [(⟨0, I 15 (.fieldAddr 0) [T 2], [], false⟩ ::
   ⟨1, I 16 (.load1) [T 15], [], false⟩ ::
   ⟨3, I 18 (.fieldAddr 0) [T 2], [], false⟩ ::
   ⟨4, I 19 (.load1) [T 18], [], false⟩ ::
   ⟨5, I 20 (.fieldAddr 1) [T 2], [], false⟩ ::
   ⟨6, I 21 (.load1) [T 20], [], false⟩ ::
   ⟨8, I 23 (.fieldAddr 2) [T 2], [], false⟩ ::
   ⟨9, I 24 (.load1) [T 23], [], false⟩ ::
   ⟨11, I 26 (.fieldAddr 2) [T 2], [], false⟩ ::
   ⟨12, I 27 (.load1) [T 26], [], false⟩ ::
   ⟨18, I 33 (.fieldAddr 3) [T 2], [], false⟩ ::
   ⟨19, I 34 (.load1) [T 33], [], false⟩ ::
   ⟨2, I 17 (.callv) [F 98, T 16], [(4, I 19 (.load1) [T 18]), (6, I 21 (.load1) [T 20]), (9, I 24 (.load1) [T 23]), (12, I 27 (.load1) [T 26]), (19, I 34 (.load1) [T 33])], false⟩ ::
   ⟨7, I 22 (.callv) [F 99, T 19, T 21], [(9, I 24 (.load1) [T 23]), (12, I 27 (.load1) [T 26]), (19, I 34 (.load1) [T 33])], false⟩ ::
   ⟨10, I 25 (.callv) [F 100, T 24], [(12, I 27 (.load1) [T 26]), (19, I 34 (.load1) [T 33])], false⟩ ::
   ⟨13, I 28 (.callv) [F 101, T 27], [(19, I 34 (.load1) [T 33])], false⟩ ::
   ⟨14, I 29 (.callv) [F 102], [(19, I 34 (.load1) [T 33])], false⟩ ::
   ⟨15, I 30 (.callv) [F 103, N 4096], [(19, I 34 (.load1) [T 33])], false⟩ ::
   ⟨16, I 31 (.callv) [F 104, N 4096], [(19, I 34 (.load1) [T 33])], false⟩ ::
   ⟨17, I 32 (.callv) [F 105, N 4096], [(19, I 34 (.load1) [T 33])], false⟩ ::
   ⟨20, I 35 (.callv) [F 106, T 34], [], false⟩ ::
   ⟨21, I 36 (.mkmap) [], [(1, I 16 (.load1) [T 15]), (4, I 19 (.load1) [T 18]), (6, I 21 (.load1) [T 20]), (9, I 24 (.load1) [T 23]), (12, I 27 (.load1) [T 26]), (19, I 34 (.load1) [T 33])], false⟩ ::
   ⟨22, I 37 (.build (.agg [.nilptr, .nilptr, .nilptr, .nilptr, .nilptr, .nilptr, .nilptr, .nilptr, .nilptr, .nilmap, (.int .i64 0)]) [(0, 1), (1, 1), (2, 1), (3, 1), (4, 1), (5, 1), (6, 1), (7, 1), (8, 1), (9, 1), (10, 1)]) [T 17, T 22, T 25, T 28, T 29, T 30, T 31, T 32, T 35, T 36, N 1000], [], false⟩ ::
   ⟨23, I 38 (.box 58 11) [T 37], [], false⟩ ::
   ⟨24, I 6 (.mv) [T 38], [], false⟩ ::
   []),
(⟨0, I 15 (.fieldAddr 0) [T 2], [], false⟩ ::
   ⟨1, I 16 (.load1) [T 15], [], false⟩ ::
   ⟨3, I 18 (.fieldAddr 0) [T 2], [], false⟩ ::
   ⟨4, I 19 (.load1) [T 18], [], false⟩ ::
   ⟨5, I 20 (.fieldAddr 1) [T 2], [], false⟩ ::
   ⟨6, I 21 (.load1) [T 20], [], false⟩ ::
   ⟨8, I 23 (.fieldAddr 2) [T 2], [], false⟩ ::
   ⟨9, I 24 (.load1) [T 23], [], false⟩ ::
   ⟨11, I 26 (.fieldAddr 2) [T 2], [], false⟩ ::
   ⟨12, I 27 (.load1) [T 26], [], false⟩ ::
   ⟨18, I 33 (.fieldAddr 3) [T 2], [], false⟩ ::
   ⟨19, I 34 (.load1) [T 33], [], false⟩ ::
   ⟨2, I 17 (.callv) [F 98, T 16], [(4, I 19 (.load1) [T 18]), (6, I 21 (.load1) [T 20]), (9, I 24 (.load1) [T 23]), (12, I 27 (.load1) [T 26]), (19, I 34 (.load1) [T 33])], false⟩ ::
   ⟨7, I 22 (.callv) [F 99, T 19, T 21], [(9, I 24 (.load1) [T 23]), (12, I 27 (.load1) [T 26]), (19, I 34 (.load1) [T 33])], false⟩ ::
   ⟨10, I 25 (.callv) [F 100, T 24], [(12, I 27 (.load1) [T 26]), (19, I 34 (.load1) [T 33])], false⟩ ::
   ⟨13, I 28 (.callv) [F 101, T 27], [(19, I 34 (.load1) [T 33])], false⟩ ::
   ⟨14, I 29 (.callv) [F 102], [(19, I 34 (.load1) [T 33])], false⟩ ::
   ⟨15, I 30 (.callv) [F 103, N 4096], [(19, I 34 (.load1) [T 33])], false⟩ ::
   ⟨16, I 31 (.callv) [F 104, N 4096], [(19, I 34 (.load1) [T 33])], false⟩ ::
   ⟨17, I 32 (.callv) [F 105, N 4096], [(19, I 34 (.load1) [T 33])], false⟩ ::
   ⟨21, I 36 (.mkmap) [], [(1, I 16 (.load1) [T 15]), (4, I 19 (.load1) [T 18]), (6, I 21 (.load1) [T 20]), (9, I 24 (.load1) [T 23]), (12, I 27 (.load1) [T 26]), (19, I 34 (.load1) [T 33])], false⟩ ::
   ⟨20, I 35 (.callv) [F 106, T 34], [], false⟩ ::
   ⟨22, I 37 (.build (.agg [.nilptr, .nilptr, .nilptr, .nilptr, .nilptr, .nilptr, .nilptr, .nilptr, .nilptr, .nilmap, (.int .i64 0)]) [(0, 1), (1, 1), (2, 1), (3, 1), (4, 1), (5, 1), (6, 1), (7, 1), (8, 1), (9, 1), (10, 1)]) [T 17, T 22, T 25, T 28, T 29, T 30, T 31, T 32, T 35, T 36, N 1000], [], false⟩ ::
   ⟨23, I 38 (.box 58 11) [T 37], [], false⟩ ::
   ⟨24, I 6 (.mv) [T 38], [], false⟩ ::
   []),
(⟨0, I 15 (.fieldAddr 0) [T 2], [], false⟩ ::
   ⟨1, I 16 (.load1) [T 15], [], false⟩ ::
   ⟨3, I 18 (.fieldAddr 0) [T 2], [], false⟩ ::
   ⟨4, I 19 (.load1) [T 18], [], false⟩ ::
   ⟨5, I 20 (.fieldAddr 1) [T 2], [], false⟩ ::
   ⟨6, I 21 (.load1) [T 20], [], false⟩ ::
   ⟨8, I 23 (.fieldAddr 2) [T 2], [], false⟩ ::
   ⟨9, I 24 (.load1) [T 23], [], false⟩ ::
   ⟨11, I 26 (.fieldAddr 2) [T 2], [], false⟩ ::
   ⟨12, I 27 (.load1) [T 26], [], false⟩ ::
   ⟨18, I 33 (.fieldAddr 3) [T 2], [], false⟩ ::
   ⟨19, I 34 (.load1) [T 33], [], false⟩ ::
   ⟨2, I 17 (.callv) [F 98, T 16], [(4, I 19 (.load1) [T 18]), (6, I 21 (.load1) [T 20]), (9, I 24 (.load1) [T 23]), (12, I 27 (.load1) [T 26]), (19, I 34 (.load1) [T 33])], false⟩ ::
   ⟨7, I 22 (.callv) [F 99, T 19, T 21], [(9, I 24 (.load1) [T 23]), (12, I 27 (.load1) [T 26]), (19, I 34 (.load1) [T 33])], false⟩ ::
   ⟨10, I 25 (.callv) [F 100, T 24], [(12, I 27 (.load1) [T 26]), (19, I 34 (.load1) [T 33])], false⟩ ::
   ⟨13, I 28 (.callv) [F 101, T 27], [(19, I 34 (.load1) [T 33])], false⟩ ::
   ⟨14, I 29 (.callv) [F 102], [(19, I 34 (.load1) [T 33])], false⟩ ::
   ⟨15, I 30 (.callv) [F 103, N 4096], [(19, I 34 (.load1) [T 33])], false⟩ ::
   ⟨16, I 31 (.callv) [F 104, N 4096], [(19, I 34 (.load1) [T 33])], false⟩ ::
   ⟨21, I 36 (.mkmap) [], [(1, I 16 (.load1) [T 15]), (4, I 19 (.load1) [T 18]), (6, I 21 (.load1) [T 20]), (9, I 24 (.load1) [T 23]), (12, I 27 (.load1) [T 26]), (19, I 34 (.load1) [T 33])], false⟩ ::
   ⟨17, I 32 (.callv) [F 105, N 4096], [(19, I 34 (.load1) [T 33])], false⟩ ::
   ⟨20, I 35 (.callv) [F 106, T 34], [], false⟩ ::
   ⟨22, I 37 (.build (.agg [.nilptr, .nilptr, .nilptr, .nilptr, .nilptr, .nilptr, .nilptr, .nilptr, .nilptr, .nilmap, (.int .i64 0)]) [(0, 1), (1, 1), (2, 1), (3, 1), (4, 1), (5, 1), (6, 1), (7, 1), (8, 1), (9, 1), (10, 1)]) [T 17, T 22, T 25, T 28, T 29, T 30, T 31, T 32, T 35, T 36, N 1000], [], false⟩ ::
   ⟨23, I 38 (.box 58 11) [T 37], [], false⟩ ::
   ⟨24, I 6 (.mv) [T 38], [], false⟩ ::
   []),
(⟨0, I 15 (.fieldAddr 0) [T 2], [], false⟩ ::
   ⟨1, I 16 (.load1) [T 15], [], false⟩ ::
   ⟨3, I 18 (.fieldAddr 0) [T 2], [], false⟩ ::
   ⟨4, I 19 (.load1) [T 18], [], false⟩ ::
   ⟨5, I 20 (.fieldAddr 1) [T 2], [], false⟩ ::
   ⟨6, I 21 (.load1) [T 20], [], false⟩ ::
   ⟨8, I 23 (.fieldAddr 2) [T 2], [], false⟩ ::
   ⟨9, I 24 (.load1) [T 23], [], false⟩ ::
   ⟨11, I 26 (.fieldAddr 2) [T 2], [], false⟩ ::
   ⟨12, I 27 (.load1) [T 26], [], false⟩ ::
   ⟨18, I 33 (.fieldAddr 3) [T 2], [], false⟩ ::
   ⟨19, I 34 (.load1) [T 33], [], false⟩ ::
   ⟨2, I 17 (.callv) [F 98, T 16], [(4, I 19 (.load1) [T 18]), (6, I 21 (.load1) [T 20]), (9, I 24 (.load1) [T 23]), (12, I 27 (.load1) [T 26]), (19, I 34 (.load1) [T 33])], false⟩ ::
   ⟨7, I 22 (.callv) [F 99, T 19, T 21], [(9, I 24 (.load1) [T 23]), (12, I 27 (.load1) [T 26]), (19, I 34 (.load1) [T 33])], false⟩ ::
   ⟨10, I 25 (.callv) [F 100, T 24], [(12, I 27 (.load1) [T 26]), (19, I 34 (.load1) [T 33])], false⟩ ::
   ⟨13, I 28 (.callv) [F 101, T 27], [(19, I 34 (.load1) [T 33])], false⟩ ::
   ⟨14, I 29 (.callv) [F 102], [(19, I 34 (.load1) [T 33])], false⟩ ::
   ⟨15, I 30 (.callv) [F 103, N 4096], [(19, I 34 (.load1) [T 33])], false⟩ ::
   ⟨21, I 36 (.mkmap) [], [(1, I 16 (.load1) [T 15]), (4, I 19 (.load1) [T 18]), (6, I 21 (.load1) [T 20]), (9, I 24 (.load1) [T 23]), (12, I 27 (.load1) [T 26]), (19, I 34 (.load1) [T 33])], false⟩ ::
   ⟨16, I 31 (.callv) [F 104, N 4096], [(19, I 34 (.load1) [T 33])], false⟩ ::
   ⟨17, I 32 (.callv) [F 105, N 4096], [(19, I 34 (.load1) [T 33])], false⟩ ::
   ⟨20, I 35 (.callv) [F 106, T 34], [], false⟩ ::
   ⟨22, I 37 (.build (.agg [.nilptr, .nilptr, .nilptr, .nilptr, .nilptr, .nilptr, .nilptr, .nilptr, .nilptr, .nilmap, (.int .i64 0)]) [(0, 1), (1, 1), (2, 1), (3, 1), (4, 1), (5, 1), (6, 1), (7, 1), (8, 1), (9, 1), (10, 1)]) [T 17, T 22, T 25, T 28, T 29, T 30, T 31, T 32, T 35, T 36, N 1000], [], false⟩ ::
   ⟨23, I 38 (.box 58 11) [T 37], [], false⟩ ::
   ⟨24, I 6 (.mv) [T 38], [], false⟩ ::
   []),
(⟨0, I 15 (.fieldAddr 0) [T 2], [], false⟩ ::
   ⟨1, I 16 (.load1) [T 15], [], false⟩ ::
   ⟨3, I 18 (.fieldAddr 0) [T 2], [], false⟩ ::
   ⟨4, I 19 (.load1) [T 18], [], false⟩ ::
   ⟨5, I 20 (.fieldAddr 1) [T 2], [], false⟩ ::
   ⟨6, I 21 (.load1) [T 20], [], false⟩ ::
   ⟨8, I 23 (.fieldAddr 2) [T 2], [], false⟩ ::
   ⟨9, I 24 (.load1) [T 23], [], false⟩ ::
   ⟨11, I 26 (.fieldAddr 2) [T 2], [], false⟩ ::
   ⟨12, I 27 (.load1) [T 26], [], false⟩ ::
   ⟨18, I 33 (.fieldAddr 3) [T 2], [], false⟩ ::
   ⟨19, I 34 (.load1) [T 33], [], false⟩ ::
   ⟨2, I 17 (.callv) [F 98, T 16], [(4, I 19 (.load1) [T 18]), (6, I 21 (.load1) [T 20]), (9, I 24 (.load1) [T 23]), (12, I 27 (.load1) [T 26]), (19, I 34 (.load1) [T 33])], false⟩ ::
   ⟨7, I 22 (.callv) [F 99, T 19, T 21], [(9, I 24 (.load1) [T 23]), (12, I 27 (.load1) [T 26]), (19, I 34 (.load1) [T 33])], false⟩ ::
   ⟨10, I 25 (.callv) [F 100, T 24], [(12, I 27 (.load1) [T 26]), (19, I 34 (.load1) [T 33])], false⟩ ::
   ⟨13, I 28 (.callv) [F 101, T 27], [(19, I 34 (.load1) [T 33])], false⟩ ::
   ⟨14, I 29 (.callv) [F 102], [(19, I 34 (.load1) [T 33])], false⟩ ::
   ⟨21, I 36 (.mkmap) [], [(1, I 16 (.load1) [T 15]), (4, I 19 (.load1) [T 18]), (6, I 21 (.load1) [T 20]), (9, I 24 (.load1) [T 23]), (12, I 27 (.load1) [T 26]), (19, I 34 (.load1) [T 33])], false⟩ ::
   ⟨15, I 30 (.callv) [F 103, N 4096], [(19, I 34 (.load1) [T 33])], false⟩ ::
   ⟨16, I 31 (.callv) [F 104, N 4096], [(19, I 34 (.load1) [T 33])], false⟩ ::
   ⟨17, I 32 (.callv) [F 105, N 4096], [(19, I 34 (.load1) [T 33])], false⟩ ::
   ⟨20, I 35 (.callv) [F 106, T 34], [], false⟩ ::
   ⟨22, I 37 (.build (.agg [.nilptr, .nilptr, .nilptr, .nilptr, .nilptr, .nilptr, .nilptr, .nilptr, .nilptr, .nilmap, (.int .i64 0)]) [(0, 1), (1, 1), (2, 1), (3, 1), (4, 1), (5, 1), (6, 1), (7, 1), (8, 1), (9, 1), (10, 1)]) [T 17, T 22, T 25, T 28, T 29, T 30, T 31, T 32, T 35, T 36, N 1000], [], false⟩ ::
   ⟨23, I 38 (.box 58 11) [T 37], [], false⟩ ::
   ⟨24, I 6 (.mv) [T 38], [], false⟩ ::
   []),
(⟨0, I 15 (.fieldAddr 0) [T 2], [], false⟩ ::
   ⟨1, I 16 (.load1) [T 15], [], false⟩ ::
   ⟨3, I 18 (.fieldAddr 0) [T 2], [], false⟩ ::
   ⟨4, I 19 (.load1) [T 18], [], false⟩ ::
   ⟨5, I 20 (.fieldAddr 1) [T 2], [], false⟩ ::
   ⟨6, I 21 (.load1) [T 20], [], false⟩ ::
   ⟨8, I 23 (.fieldAddr 2) [T 2], [], false⟩ ::
   ⟨9, I 24 (.load1) [T 23], [], false⟩ ::
   ⟨11, I 26 (.fieldAddr 2) [T 2], [], false⟩ ::
   ⟨12, I 27 (.load1) [T 26], [], false⟩ ::
   ⟨18, I 33 (.fieldAddr 3) [T 2], [], false⟩ ::
   ⟨19, I 34 (.load1) [T 33], [], false⟩ ::
   ⟨2, I 17 (.callv) [F 98, T 16], [(4, I 19 (.load1) [T 18]), (6, I 21 (.load1) [T 20]), (9, I 24 (.load1) [T 23]), (12, I 27 (.load1) [T 26]), (19, I 34 (.load1) [T 33])], false⟩ ::
   ⟨7, I 22 (.callv) [F 99, T 19, T 21], [(9, I 24 (.load1) [T 23]), (12, I 27 (.load1) [T 26]), (19, I 34 (.load1) [T 33])], false⟩ ::
   ⟨10, I 25 (.callv) [F 100, T 24], [(12, I 27 (.load1) [T 26]), (19, I 34 (.load1) [T 33])], false⟩ ::
   ⟨13, I 28 (.callv) [F 101, T 27], [(19, I 34 (.load1) [T 33])], false⟩ ::
   ⟨21, I 36 (.mkmap) [], [(1, I 16 (.load1) [T 15]), (4, I 19 (.load1) [T 18]), (6, I 21 (.load1) [T 20]), (9, I 24 (.load1) [T 23]), (12, I 27 (.load1) [T 26]), (19, I 34 (.load1) [T 33])], false⟩ ::
   ⟨14, I 29 (.callv) [F 102], [(19, I 34 (.load1) [T 33])], false⟩ ::
   ⟨15, I 30 (.callv) [F 103, N 4096], [(19, I 34 (.load1) [T 33])], false⟩ ::
   ⟨16, I 31 (.callv) [F 104, N 4096], [(19, I 34 (.load1) [T 33])], false⟩ ::
   ⟨17, I 32 (.callv) [F 105, N 4096], [(19, I 34 (.load1) [T 33])], false⟩ ::
   ⟨20, I 35 (.callv) [F 106, T 34], [], false⟩ ::
   ⟨22, I 37 (.build (.agg [.nilptr, .nilptr, .nilptr, .nilptr, .nilptr, .nilptr, .nilptr, .nilptr, .nilptr, .nilmap, (.int .i64 0)]) [(0, 1), (1, 1), (2, 1), (3, 1), (4, 1), (5, 1), (6, 1), (7, 1), (8, 1), (9, 1), (10, 1)]) [T 17, T 22, T 25, T 28, T 29, T 30, T 31, T 32, T 35, T 36, N 1000], [], false⟩ ::
   ⟨23, I 38 (.box 58 11) [T 37], [], false⟩ ::
   ⟨24, I 6 (.mv) [T 38], [], false⟩ ::
   []),
(⟨0, I 15 (.fieldAddr 0) [T 2], [], false⟩ ::
   ⟨1, I 16 (.load1) [T 15], [], false⟩ ::
   ⟨3, I 18 (.fieldAddr 0) [T 2], [], false⟩ ::
   ⟨4, I 19 (.load1) [T 18], [], false⟩ ::
   ⟨5, I 20 (.fieldAddr 1) [T 2], [], false⟩ ::
   ⟨6, I 21 (.load1) [T 20], [], false⟩ ::
   ⟨8, I 23 (.fieldAddr 2) [T 2], [], false⟩ ::
   ⟨9, I 24 (.load1) [T 23], [], false⟩ ::
   ⟨11, I 26 (.fieldAddr 2) [T 2], [], false⟩ ::
   ⟨12, I 27 (.load1) [T 26], [], false⟩ ::
   ⟨18, I 33 (.fieldAddr 3) [T 2], [], false⟩ ::
   ⟨19, I 34 (.load1) [T 33], [], false⟩ ::
   ⟨2, I 17 (.callv) [F 98, T 16], [(4, I 19 (.load1) [T 18]), (6, I 21 (.load1) [T 20]), (9, I 24 (.load1) [T 23]), (12, I 27 (.load1) [T 26]), (19, I 34 (.load1) [T 33])], false⟩ ::
   ⟨7, I 22 (.callv) [F 99, T 19, T 21], [(9, I 24 (.load1) [T 23]), (12, I 27 (.load1) [T 26]), (19, I 34 (.load1) [T 33])], false⟩ ::
   ⟨10, I 25 (.callv) [F 100, T 24], [(12, I 27 (.load1) [T 26]), (19, I 34 (.load1) [T 33])], false⟩ ::
   ⟨21, I 36 (.mkmap) [], [(1, I 16 (.load1) [T 15]), (4, I 19 (.load1) [T 18]), (6, I 21 (.load1) [T 20]), (9, I 24 (.load1) [T 23]), (12, I 27 (.load1) [T 26]), (19, I 34 (.load1) [T 33])], false⟩ ::
   ⟨13, I 28 (.callv) [F 101, T 27], [(19, I 34 (.load1) [T 33])], false⟩ ::
   ⟨14, I 29 (.callv) [F 102], [(19, I 34 (.load1) [T 33])], false⟩ ::
   ⟨15, I 30 (.callv) [F 103, N 4096], [(19, I 34 (.load1) [T 33])], false⟩ ::
   ⟨16, I 31 (.callv) [F 104, N 4096], [(19, I 34 (.load1) [T 33])], false⟩ ::
   ⟨17, I 32 (.callv) [F 105, N 4096], [(19, I 34 (.load1) [T 33])], false⟩ ::
   ⟨20, I 35 (.callv) [F 106, T 34], [], false⟩ ::
   ⟨22, I 37 (.build (.agg [.nilptr, .nilptr, .nilptr, .nilptr, .nilptr, .nilptr, .nilptr, .nilptr, .nilptr, .nilmap, (.int .i64 0)]) [(0, 1), (1, 1), (2, 1), (3, 1), (4, 1), (5, 1), (6, 1), (7, 1), (8, 1), (9, 1), (10, 1)]) [T 17, T 22, T 25, T 28, T 29, T 30, T 31, T 32, T 35, T 36, N 1000], [], false⟩ ::
   ⟨23, I 38 (.box 58 11) [T 37], [], false⟩ ::
   ⟨24, I 6 (.mv) [T 38], [], false⟩ ::
   []),
(⟨0, I 15 (.fieldAddr 0) [T 2], [], false⟩ ::
   ⟨1, I 16 (.load1) [T 15], [], false⟩ ::
   ⟨3, I 18 (.fieldAddr 0) [T 2], [], false⟩ ::
   ⟨4, I 19 (.load1) [T 18], [], false⟩ ::
   ⟨5, I 20 (.fieldAddr 1) [T 2], [], false⟩ ::
   ⟨6, I 21 (.load1) [T 20], [], false⟩ ::
   ⟨8, I 23 (.fieldAddr 2) [T 2], [], false⟩ ::
   ⟨9, I 24 (.load1) [T 23], [], false⟩ ::
   ⟨11, I 26 (.fieldAddr 2) [T 2], [], false⟩ ::
   ⟨12, I 27 (.load1) [T 26], [], false⟩ ::
   ⟨18, I 33 (.fieldAddr 3) [T 2], [], false⟩ ::
   ⟨19, I 34 (.load1) [T 33], [], false⟩ ::
   ⟨2, I 17 (.callv) [F 98, T 16], [(4, I 19 (.load1) [T 18]), (6, I 21 (.load1) [T 20]), (9, I 24 (.load1) [T 23]), (12, I 27 (.load1) [T 26]), (19, I 34 (.load1) [T 33])], false⟩ ::
   ⟨7, I 22 (.callv) [F 99, T 19, T 21], [(9, I 24 (.load1) [T 23]), (12, I 27 (.load1) [T 26]), (19, I 34 (.load1) [T 33])], false⟩ ::
   ⟨21, I 36 (.mkmap) [], [(1, I 16 (.load1) [T 15]), (4, I 19 (.load1) [T 18]), (6, I 21 (.load1) [T 20]), (9, I 24 (.load1) [T 23]), (12, I 27 (.load1) [T 26]), (19, I 34 (.load1) [T 33])], false⟩ ::
   ⟨10, I 25 (.callv) [F 100, T 24], [(12, I 27 (.load1) [T 26]), (19, I 34 (.load1) [T 33])], false⟩ ::
   ⟨13, I 28 (.callv) [F 101, T 27], [(19, I 34 (.load1) [T 33])], false⟩ ::
   ⟨14, I 29 (.callv) [F 102], [(19, I 34 (.load1) [T 33])], false⟩ ::
   ⟨15, I 30 (.callv) [F 103, N 4096], [(19, I 34 (.load1) [T 33])], false⟩ ::
   ⟨16, I 31 (.callv) [F 104, N 4096], [(19, I 34 (.load1) [T 33])], false⟩ ::
   ⟨17, I 32 (.callv) [F 105, N 4096], [(19, I 34 (.load1) [T 33])], false⟩ ::
   ⟨20, I 35 (.callv) [F 106, T 34], [], false⟩ ::
   ⟨22, I 37 (.build (.agg [.nilptr, .nilptr, .nilptr, .nilptr, .nilptr, .nilptr, .nilptr, .nilptr, .nilptr, .nilmap, (.int .i64 0)]) [(0, 1), (1, 1), (2, 1), (3, 1), (4, 1), (5, 1), (6, 1), (7, 1), (8, 1), (9, 1), (10, 1)]) [T 17, T 22, T 25, T 28, T 29, T 30, T 31, T 32, T 35, T 36, N 1000], [], false⟩ ::
   ⟨23, I 38 (.box 58 11) [T 37], [], false⟩ ::
   ⟨24, I 6 (.mv) [T 38], [], false⟩ ::
   []),
(⟨0, I 15 (.fieldAddr 0) [T 2], [], false⟩ ::
   ⟨1, I 16 (.load1) [T 15], [], false⟩ ::
   ⟨3, I 18 (.fieldAddr 0) [T 2], [], false⟩ ::
   ⟨4, I 19 (.load1) [T 18], [], false⟩ ::
   ⟨5, I 20 (.fieldAddr 1) [T 2], [], false⟩ ::
   ⟨6, I 21 (.load1) [T 20], [], false⟩ ::
   ⟨8, I 23 (.fieldAddr 2) [T 2], [], false⟩ ::
   ⟨9, I 24 (.load1) [T 23], [], false⟩ ::
   ⟨11, I 26 (.fieldAddr 2) [T 2], [], false⟩ ::
   ⟨12, I 27 (.load1) [T 26], [], false⟩ ::
   ⟨18, I 33 (.fieldAddr 3) [T 2], [], false⟩ ::
   ⟨19, I 34 (.load1) [T 33], [], false⟩ ::
   ⟨2, I 17 (.callv) [F 98, T 16], [(4, I 19 (.load1) [T 18]), (6, I 21 (.load1) [T 20]), (9, I 24 (.load1) [T 23]), (12, I 27 (.load1) [T 26]), (19, I 34 (.load1) [T 33])], false⟩ ::
   ⟨21, I 36 (.mkmap) [], [(1, I 16 (.load1) [T 15]), (4, I 19 (.load1) [T 18]), (6, I 21 (.load1) [T 20]), (9, I 24 (.load1) [T 23]), (12, I 27 (.load1) [T 26]), (19, I 34 (.load1) [T 33])], false⟩ ::
   ⟨7, I 22 (.callv) [F 99, T 19, T 21], [(9, I 24 (.load1) [T 23]), (12, I 27 (.load1) [T 26]), (19, I 34 (.load1) [T 33])], false⟩ ::
   ⟨10, I 25 (.callv) [F 100, T 24], [(12, I 27 (.load1) [T 26]), (19, I 34 (.load1) [T 33])], false⟩ ::
   ⟨13, I 28 (.callv) [F 101, T 27], [(19, I 34 (.load1) [T 33])], false⟩ ::
   ⟨14, I 29 (.callv) [F 102], [(19, I 34 (.load1) [T 33])], false⟩ ::
   ⟨15, I 30 (.callv) [F 103, N 4096], [(19, I 34 (.load1) [T 33])], false⟩ ::
   ⟨16, I 31 (.callv) [F 104, N 4096], [(19, I 34 (.load1) [T 33])], false⟩ ::
   ⟨17, I 32 (.callv) [F 105, N 4096], [(19, I 34 (.load1) [T 33])], false⟩ ::
   ⟨20, I 35 (.callv) [F 106, T 34], [], false⟩ ::
   ⟨22, I 37 (.build (.agg [.nilptr, .nilptr, .nilptr, .nilptr, .nilptr, .nilptr, .nilptr, .nilptr, .nilptr, .nilmap, (.int .i64 0)]) [(0, 1), (1, 1), (2, 1), (3, 1), (4, 1), (5, 1), (6, 1), (7, 1), (8, 1), (9, 1), (10, 1)]) [T 17, T 22, T 25, T 28, T 29, T 30, T 31, T 32, T 35, T 36, N 1000], [], false⟩ ::
   ⟨23, I 38 (.box 58 11) [T 37], [], false⟩ ::
   ⟨24, I 6 (.mv) [T 38], [], false⟩ ::
   []),
(⟨0, I 15 (.fieldAddr 0) [T 2], [], false⟩ ::
   ⟨1, I 16 (.load1) [T 15], [], false⟩ ::
   ⟨3, I 18 (.fieldAddr 0) [T 2], [], false⟩ ::
   ⟨4, I 19 (.load1) [T 18], [], false⟩ ::
   ⟨5, I 20 (.fieldAddr 1) [T 2], [], false⟩ ::
   ⟨6, I 21 (.load1) [T 20], [], false⟩ ::
   ⟨8, I 23 (.fieldAddr 2) [T 2], [], false⟩ ::
   ⟨9, I 24 (.load1) [T 23], [], false⟩ ::
   ⟨11, I 26 (.fieldAddr 2) [T 2], [], false⟩ ::
   ⟨12, I 27 (.load1) [T 26], [], false⟩ ::
   ⟨18, I 33 (.fieldAddr 3) [T 2], [], false⟩ ::
   ⟨19, I 34 (.load1) [T 33], [], false⟩ ::
   ⟨21, I 36 (.mkmap) [], [(1, I 16 (.load1) [T 15]), (4, I 19 (.load1) [T 18]), (6, I 21 (.load1) [T 20]), (9, I 24 (.load1) [T 23]), (12, I 27 (.load1) [T 26]), (19, I 34 (.load1) [T 33])], false⟩ ::
   ⟨2, I 17 (.callv) [F 98, T 16], [(4, I 19 (.load1) [T 18]), (6, I 21 (.load1) [T 20]), (9, I 24 (.load1) [T 23]), (12, I 27 (.load1) [T 26]), (19, I 34 (.load1) [T 33])], false⟩ ::
   ⟨7, I 22 (.callv) [F 99, T 19, T 21], [(9, I 24 (.load1) [T 23]), (12, I 27 (.load1) [T 26]), (19, I 34 (.load1) [T 33])], false⟩ ::
   ⟨10, I 25 (.callv) [F 100, T 24], [(12, I 27 (.load1) [T 26]), (19, I 34 (.load1) [T 33])], false⟩ ::
   ⟨13, I 28 (.callv) [F 101, T 27], [(19, I 34 (.load1) [T 33])], false⟩ ::
   ⟨14, I 29 (.callv) [F 102], [(19, I 34 (.load1) [T 33])], false⟩ ::
   ⟨15, I 30 (.callv) [F 103, N 4096], [(19, I 34 (.load1) [T 33])], false⟩ ::
   ⟨16, I 31 (.callv) [F 104, N 4096], [(19, I 34 (.load1) [T 33])], false⟩ ::
   ⟨17, I 32 (.callv) [F 105, N 4096], [(19, I 34 (.load1) [T 33])], false⟩ ::
   ⟨20, I 35 (.callv) [F 106, T 34], [], false⟩ ::
   ⟨22, I 37 (.build (.agg [.nilptr, .nilptr, .nilptr, .nilptr, .nilptr, .nilptr, .nilptr, .nilptr, .nilptr, .nilmap, (.int .i64 0)]) [(0, 1), (1, 1), (2, 1), (3, 1), (4, 1), (5, 1), (6, 1), (7, 1), (8, 1), (9, 1), (10, 1)]) [T 17, T 22, T 25, T 28, T 29, T 30, T 31, T 32, T 35, T 36, N 1000], [], false⟩ ::
   ⟨23, I 38 (.box 58 11) [T 37], [], false⟩ ::
   ⟨24, I 6 (.mv) [T 38], [], false⟩ ::
   [])])
 (.seq (.seq (.region [I 39 (.mv) [T 1],
   I 40 (.lens) [T 39],
   I 41 (.mv) [N 0]])
 (.block 0 (.loop c_kern_New_L0)))
 (.seq (.seq (.region [I 53 (.mv) [T 6],
   I 54 (.callv) [F 108, T 53],
   I 52 (.mv) [T 54],
   I 55 (.extract 0) [T 52],
   I 56 (.extract 1) [T 52],
   I 9 (.mv) [T 55],
   I 10 (.mv) [T 56]])
 (.seq (.region [I 57 (.mv) [T 10],
   I 58 (.bin .neq) [T 57, N 0]])
 (.cond (T 58)
 (.seq (.region [I 59 (.mv) [T 10],
    I 4 (.mv) [.lit .nilptr],
    I 5 (.mv) [T 59]])
  (.ret))
 (.skip))))
 (.seq (.region [I 60 (.mv) [T 6],
   I 4 (.mv) [T 60],
   I 5 (.mv) [N 0]])
 (.ret))))))⟩
theorem t33 : trFn Tryz.prog Tryz.f33 = some c_kern_New := by kernel_rfl
/-- slices.Sorted[int] -/
abbrev n_slices_Sorted_int : Nat := 37
def c_slices_Sorted_int : AFn := ⟨9, [.tmp 2],
 .seq (.region [I 2 (.mv) [.lit .nilsl]])
 (.seq (.region [I 4 (.mv) [T 0],
   I 5 (.callv) [F 109, T 4],
   I 3 (.mv) [T 5]])
 (.seq (.region [I 6 (.mv) [T 3],
   I 7 (.callv) [F 110, T 6]])
 (.seq (.region [I 8 (.mv) [T 3],
   I 2 (.mv) [T 8]])
 (.ret))))⟩
theorem t37 : trFn Tryz.prog Tryz.f37 = some c_slices_Sorted_int := by kernel_rfl
/-- (*pantry/daemon.Daemon).made -/
abbrev n_daemon_Daemon_made : Nat := 39
def c_daemon_Daemon_made : AFn := ⟨12, [.tmp 2],
 .seq (.region [I 2 (.mv) [.lit (.bool false)]])
 (.seq (.region [I 3 (.mv) [T 0],
   I 4 (.eqv true .ptr) [T 3, .lit .nilptr],
   I 5 (.mv) [T 4],
   IG 6 (.mv) [T 0] 5 true,
   IG 7 (.nilCheck) [T 6] 5 true,
   IG 8 (.fieldAddr 0) [T 7] 5 true,
   IG 9 (.load1) [T 8] 5 true,
   IG 10 (.eqv true .ptr) [T 9, .lit .nilptr] 5 true,
   I 11 (.pick) [T 5, T 10, .lit (.bool false)],
   I 2 (.mv) [T 11]])
 (.ret))⟩
theorem t39 : trFn Tryz.prog Tryz.f39 = some c_daemon_Daemon_made := by kernel_rfl
/-- (*pantry/daemon.Daemon).gather -/
abbrev n_daemon_Daemon_gather : Nat := 40
/-- live: [0, 2, 19, 20, 21] -/
def c_daemon_Daemon_gather_L0 : ACode :=
 .seq (.region [I 22 (.bin .lss) [T 21, T 20]])
 (.seq (.cond (T 22)
 (.skip)
 (.exit 0))
 (.seq (.block 1 (.seq (.region [I 23 (.indexs 1) [T 19, T 21],
   I 24 (.load1) [T 23],
   I 4 (.mv) [T 24]])
 (.seq (.region [I 25 (.mv) [T 2],
   I 26 (.mv) [T 4],
   I 27 (.callv) [F 113, T 25, T 26],
   I 28 (.un .not) [T 27]])
 (.cond (T 28)
 (.region [I 29 (.mv) [T 0],
    I 30 (.nilCheck) [T 29],
    I 31 (.fieldAddr 1) [T 30],
    I 32 (.load1) [T 31],
    I 33 (.mv) [T 4],
    I 34 (.callv) [F 114, T 32, T 33]])
 (.skip)))))
 (.region [I 35 (.bin .add) [T 21, N 1],
   I 21 (.mv) [T 35]])))
/-- live: [0, 36, 37, 38] -/
def c_daemon_Daemon_gather_L1 : ACode :=
 .seq (.region [I 39 (.bin .lss) [T 38, T 37]])
 (.seq (.cond (T 39)
 (.skip)
 (.exit 2))
 (.seq (.block 3 (.seq (.region [I 40 (.indexs 1) [T 36, T 38],
   I 41 (.load1) [T 40],
   I 6 (.mv) [T 41]])
 (.seq (.region [I 43 (.mv) [T 0],
   I 44 (.nilCheck) [T 43],
   I 45 (.fieldAddr 1) [T 44],
   I 46 (.load1) [T 45],
   I 47 (.mv) [T 6],
   I 48 (.callv) [F 115, T 46, T 47],
   I 42 (.mv) [T 48],
   I 49 (.extract 0) [T 42],
   I 50 (.extract 1) [T 42],
   I 7 (.mv) [T 49],
   I 8 (.mv) [T 50]])
 (.seq (.region [I 51 (.mv) [T 8],
   I 52 (.un .not) [T 51]])
 (.cond (T 52)
 (.region [I 53 (.mv) [T 0],
    I 54 (.nilCheck) [T 53],
    I 55 (.fieldAddr 1) [T 54],
    I 56 (.load1) [T 55],
    I 57 (.mv) [T 6],
    I 58 (.callv) [F 116, T 56, N 0, T 57]])
 (.skip))))))
 (.region [I 59 (.bin .add) [T 38, N 1],
   I 38 (.mv) [T 59]])))
def c_daemon_Daemon_gather : AFn := ⟨60, [],
 .seq (.region [I 9 (.mv) [T 0],
   I 10 (.nilCheck) [T 9],
   I 11 (.fieldAddr 0) [T 10],
   I 12 (.load1) [T 11],
   I 13 (.callv) [F 32, T 12],
   I 2 (.mv) [T 13]])
 (.seq (.seq (.region [I 14 (.mv) [T 0],
   I 15 (.callv) [F 15, T 14],
   I 16 (.mv) [T 0],
   I 17 (.callv) [F 16, T 16],
   I 18 (.bslice 34 1 2 (.vals [.nilsl]) [0, 1]) [T 15, T 17],
   I 19 (.callv) [F 112, T 18],
   I 20 (.lens) [T 19],
   I 21 (.mv) [N 0]])
 (.block 0 (.loop c_daemon_Daemon_gather_L0)))
 (.seq (.region [I 36 (.mv) [T 2],
   I 37 (.lens) [T 36],
   I 38 (.mv) [N 0]])
 (.block 2 (.loop c_daemon_Daemon_gather_L1))))⟩
theorem t40 : trFn Tryz.prog Tryz.f40 = some c_daemon_Daemon_gather := by kernel_rfl
/-- (*pantry/daemon.Daemon).look -/
abbrev n_daemon_Daemon_look : Nat := 41
def c_daemon_Daemon_look : AFn := ⟨34, [.tmp 2, .tmp 3],
 .seq (.region [I 2 (.mv) [.lit (.bool false)],
   I 3 (.mv) [.lit (.bool false)]])
 (.seq (.region [I 8 (.mv) [T 0],
   I 9 (.nilCheck) [T 8],
   I 10 (.fieldAddr 1) [T 9],
   I 11 (.load1) [T 10],
   I 12 (.callv) [F 117, T 11, N 1],
   I 7 (.mv) [T 12],
   I 13 (.extract 0) [T 7],
   I 14 (.extract 1) [T 7],
   I 4 (.mv) [T 13],
   I 5 (.mv) [T 14]])
 (.seq (.region [I 15 (.mv) [T 0],
   I 16 (.mkfunc 118 1) [T 15],
   I 6 (.mv) [T 16]])
 (.seq (.seq (.region [I 17 (.mv) [T 5],
   I 18 (.un .not) [T 17]])
 (.cond (T 18)
 (.seq (.seq (.region [I 20 (.mv) [T 0],
    I 21 (.nilCheck) [T 20],
    I 22 (.fieldAddr 1) [T 21],
    I 23 (.load1) [T 22],
    I 24 (.callv) [F 117, T 23, N 0],
    I 19 (.mv) [T 24],
    I 25 (.extract 0) [T 19],
    I 26 (.extract 1) [T 19],
    I 4 (.mv) [T 25],
    I 5 (.mv) [T 26]])
  (.seq (.region [I 27 (.mv) [T 5],
    I 28 (.un .not) [T 27]])
  (.cond (T 28)
  (.seq (.region [I 2 (.mv) [.lit (.bool false)],
     I 3 (.mv) [.lit (.bool false)]])
   (.ret))
  (.skip))))
  (.region [I 29 (.mv) [T 0],
    I 30 (.mkfunc 119 1) [T 29],
    I 6 (.mv) [T 30]]))
 (.skip)))
 (.seq (.region [I 31 (.mv) [T 6],
   I 32 (.mv) [T 4],
   I 33 (.callv) [T 31, T 32],
   I 2 (.mv) [T 33],
   I 3 (.mv) [.lit (.bool true)]])
 (.ret)))))⟩
theorem t41 : trFn Tryz.prog Tryz.f41 = some c_daemon_Daemon_look := by kernel_rfl
/-- (*pantry/daemon.Daemon).line -/
abbrev n_daemon_Daemon_line : Nat := 42
def c_daemon_Daemon_line : AFn := ⟨15, [.tmp 4],
 .seq (.region [I 4 (.mv) [.lit .nilsl]])
 (.seq (.seq (.region [I 5 (.mv) [T 0],
   I 6 (.callv) [F 39, T 5],
   I 7 (.un .not) [T 6]])
 (.cond (T 7)
 (.seq (.region [I 4 (.mv) [.lit .nilsl]])
  (.ret))
 (.skip)))
 (.seq (.region [I 8 (.mv) [T 0],
   I 9 (.nilCheck) [T 8],
   I 10 (.fieldAddr 1) [T 9],
   I 11 (.load1) [T 10],
   I 12 (.mv) [T 1],
   I 13 (.callv) [F 120, T 11, T 12],
   I 14 (.callv) [F 109, T 13],
   I 4 (.mv) [T 14]])
 (.ret)))⟩
theorem t42 : trFn Tryz.prog Tryz.f42 = some c_daemon_Daemon_line := by kernel_rfl
/-- pantry/ring.New[int] -/
abbrev n_ring_New_int : Nat := 43
def c_ring_New_int : AFn := ⟨14, [.tmp 2],
 .seq (.region [I 2 (.mv) [.lit .nilptr]])
 (.seq (.seq (.region [I 3 (.mv) [T 0],
   I 4 (.bin .lss) [T 3, N 1],
   I 5 (.mv) [T 4],
   IG 6 (.mv) [T 0] 5 false,
   IG 7 (.bin .gtr) [T 6, N 64] 5 false,
   I 8 (.pick) [T 5, .lit (.bool true), T 7]])
 (.cond (T 8)
 (.seq (.region [I 2 (.mv) [.lit .nilptr]])
  (.ret))
 (.skip)))
 (.seq (.region [I 9 (.mv) [T 0],
   I 10 (.mkslice 34 1 24 (.vals [.nilsl])) [T 9, T 9],
   I 11 (.mkmap) [],
   I 12 (.build (.agg [.nilsl, .nilmap]) [(0, 1), (1, 1)]) [T 10, T 11],
   I 13 (.box 181 2) [T 12],
   I 2 (.mv) [T 13]])
 (.ret)))⟩
theorem t43 : trFn Tryz.prog Tryz.f43 = some c_ring_New_int := by kernel_rfl
/-- (*pantry/kern.Kernel).made -/
abbrev n_kern_Kernel_made : Nat := 44
def c_kern_Kernel_made : AFn := ⟨12, [.tmp 2],
 .seq (.region [I 2 (.mv) [.lit (.bool false)]])
 (.seq (.region [I 3 (.mv) [T 0],
   I 4 (.eqv true .ptr) [T 3, .lit .nilptr],
   I 5 (.mv) [T 4],
   IG 6 (.mv) [T 0] 5 true,
   IG 7 (.nilCheck) [T 6] 5 true,
   IG 8 (.fieldAddr 9) [T 7] 5 true,
   IG 9 (.load1) [T 8] 5 true,
   IG 10 (.eqv true .map) [T 9, .lit .nilmap] 5 true,
   I 11 (.pick) [T 5, T 10, .lit (.bool false)],
   I 2 (.mv) [T 11]])
 (.ret))⟩
theorem t44 : trFn Tryz.prog Tryz.f44 = some c_kern_Kernel_made := by kernel_rfl
/-- (*pantry/vmap.Map).At -/
abbrev n_vmap_Map_At : Nat := 45
def c_vmap_Map_At : AFn := ⟨31, [.cell 4 (.loadn 10), .tmp 5],
 .seq (.region [I 4 (.alloc 94 10 (.vals [(.int .i64 0), (.int .i64 0), (.int .i64 0), (.int .i64 0), (.bool false), (.int .i64 0), (.int .i64 0), (.int .i64 0), (.int .i64 0), (.bool false)])) [],
   I 5 (.mv) [.lit (.bool false)]])
 (.seq (.seq (.region [I 8 (.mv) [T 0],
   I 9 (.callv) [F 121, T 8],
   I 10 (.un .not) [T 9]])
 (.cond (T 10)
 (.seq (.region [I 11 (.build (.agg [(.int .i64 0), (.int .i64 0), (.int .i64 0), (.int .i64 0), (.bool false), (.int .i64 0), (.int .i64 0), (.int .i64 0), (.int .i64 0), (.bool false)]) []) [],
    J (.store 10) [T 4, T 11],
    I 5 (.mv) [.lit (.bool false)]])
  (.ret))
 (.skip)))
 (.seq (.region [I 13 (.mv) [T 0],
   I 14 (.nilCheck) [T 13],
   I 15 (.fieldAddr 0) [T 14],
   I 16 (.load1) [T 15],
   I 17 (.mv) [T 1],
   I 18 (.callv) [F 122, T 16, T 17],
   I 12 (.mv) [T 18],
   I 19 (.extract 0) [T 12],
   I 20 (.extract 1) [T 12],
   I 6 (.mv) [T 19],
   I 7 (.mv) [T 20]])
 (.seq (.seq (.region [I 21 (.mv) [T 7],
   I 22 (.un .not) [T 21]])
 (.cond (T 22)
 (.seq (.region [I 23 (.build (.agg [(.int .i64 0), (.int .i64 0), (.int .i64 0), (.int .i64 0), (.bool false), (.int .i64 0), (.int .i64 0), (.int .i64 0), (.int .i64 0), (.bool false)]) []) [],
    J (.store 10) [T 4, T 23],
    I 5 (.mv) [.lit (.bool false)]])
  (.ret))
 (.skip)))
 (.seq (.region [I 24 (.mv) [T 0],
   I 25 (.nilCheck) [T 24],
   I 26 (.fieldAddr 0) [T 25],
   I 27 (.load1) [T 26],
   I 28 (.mv) [T 6],
   I 29 (.indexs 10) [T 27, T 28],
   I 30 (.loadn 10) [T 29],
   J (.store 10) [T 4, T 30],
   I 5 (.mv) [.lit (.bool true)]])
 (.ret)))))⟩
theorem t45 : trFn Tryz.prog Tryz.f45 = some c_vmap_Map_At := by kernel_rfl
/-- (*pantry/kern.Kernel).anonAt -/
abbrev n_kern_Kernel_anonAt : Nat := 47
def c_kern_Kernel_anonAt : AFn := ⟨33, [.tmp 6],
 .seq (.region [I 6 (.mv) [N 0]])
 (.seq (.region [I 8 (.mv) [T 1],
   I 9 (.mv) [T 2],
   I 10 (.callv) [F 124, T 8, T 9],
   I 7 (.mv) [T 10]])
 (.seq (.seq (.region [I 11 (.mv) [T 7],
   I 12 (.eqv false .ptr) [T 11, .lit .nilptr]])
 (.cond (T 12)
 (.seq (.region [I 6 (.mv) [N 0]])
  (.ret))
 (.skip)))
 (.seq (.draw [[⟨0, I 13 (.mv) [T 0], [], false⟩,
   ⟨1, I 14 (.nilCheck) [T 13], [], false⟩,
   ⟨2, I 15 (.fieldAddr 6) [T 14], [], false⟩,
   ⟨3, I 16 (.load1) [T 15], [], false⟩,
   ⟨4, I 17 (.mv) [T 7], [], false⟩,
   ⟨5, I 18 (.nilCheck) [T 17], [], false⟩,
   ⟨6, I 19 (.fieldAddr 2) [T 18], [], false⟩,
   ⟨7, I 20 (.load1) [T 19], [], false⟩,
   ⟨8, I 21 (.mv) [T 7], [], false⟩,
   ⟨9, I 22 (.nilCheck) [T 21], [], false⟩,
   ⟨10, I 23 (.fieldAddr 3) [T 22], [], false⟩,
   ⟨11, I 24 (.load1) [T 23], [], false⟩,
   ⟨12, I 25 (.mv) [T 2], [], false⟩,
   ⟨13, I 26 (.bin .add) [T 24, T 25], [], false⟩,
   ⟨14, I 27 (.mv) [T 7], [], false⟩,
   ⟨15, I 28 (.nilCheck) [T 27], [], false⟩,
   ⟨16, I 29 (.fieldAddr 0) [T 28], [], false⟩,
   ⟨17, I 30 (.load1) [T 29], [], false⟩,
   ⟨18, I 31 (.bin .sub) [T 26, T 30], [], false⟩,
   ⟨19, I 32 (.callv) [F 63, T 16, T 20, T 31], [], false⟩,
   ⟨20, I 6 (.mv) [T 32], [], false⟩]])
 (.ret))))⟩
theorem t47 : trFn Tryz.prog Tryz.f47 = some c_kern_Kernel_anonAt := by kernel_rfl
/-- (*pantry/kern.Kernel).gone -/
abbrev n_kern_Kernel_gone : Nat := 49
def c_kern_Kernel_gone : AFn := ⟨33, [.tmp 6],
 .seq (.region [I 6 (.mv) [.lit (.bool false)]])
 (.seq (.region [I 10 (.mv) [T 0],
   I 11 (.nilCheck) [T 10],
   I 12 (.fieldAddr 4) [T 11],
   I 13 (.load1) [T 12],
   I 14 (.mv) [T 1],
   I 15 (.callv) [F 126, T 13, T 14],
   I 9 (.mv) [T 15],
   I 16 (.extract 0) [T 9],
   I 17 (.extract 1) [T 9],
   I 7 (.mv) [T 16],
   I 8 (.mv) [T 17]])
 (.seq (.region [I 18 (.mv) [T 1],
   I 19 (.bin .gtr) [T 18, N 0],
   I 20 (.mv) [T 19],
   IG 21 (.mv) [T 1] 20 true,
   IG 22 (.bin .leq) [T 21, N 1000] 20 true,
   I 23 (.pick) [T 20, T 22, .lit (.bool false)],
   I 24 (.mv) [T 23],
   IG 25 (.mv) [T 2] 24 true,
   IG 26 (.bin .lss) [T 25, N 0] 24 true,
   IG 27 (.mv) [T 26] 24 true,
   IG 28 (.mv) [T 2] 27 false,
   IG 29 (.mv) [T 7] 27 false,
   IG 30 (.bin .geq) [T 28, T 29] 27 false,
   IG 31 (.pick) [T 27, .lit (.bool true), T 30] 24 true,
   I 32 (.pick) [T 24, T 31, .lit (.bool false)],
   I 6 (.mv) [T 32]])
 (.ret)))⟩
theorem t49 : trFn Tryz.prog Tryz.f49 = some c_kern_Kernel_gone := by kernel_rfl
/-- (*pantry/kern.Kernel).allowed -/
abbrev n_kern_Kernel_allowed : Nat := 52
def c_kern_Kernel_allowed : AFn := ⟨61, [.tmp 10],
 .seq (.region [I 10 (.mv) [N 0]])
 (.seq (.region [I 14 (.mv) [T 1],
   I 15 (.nilCheck) [T 14],
   I 16 (.fieldAddr 1) [T 15],
   I 17 (.load1) [T 16],
   I 18 (.mv) [T 2],
   I 19 (.callv) [F 45, T 17, T 18],
   I 13 (.mv) [T 19],
   I 20 (.extract 0) [T 13],
   I 21 (.extract 1) [T 13],
   I 11 (.alloc 94 10 (.vals [(.int .i64 0), (.int .i64 0), (.int .i64 0), (.int .i64 0), (.bool false), (.int .i64 0), (.int .i64 0), (.int .i64 0), (.int .i64 0), (.bool false)])) [],
   J (.store 10) [T 11, T 20],
   I 12 (.mv) [T 21]])
 (.seq (.block 0 (.seq (.region [I 23 (.mv) [T 3],
   I 24 (.bin .lss) [T 23, N 0],
   I 25 (.mv) [T 24],
   IG 26 (.mv) [T 3] 25 false,
   IG 27 (.bin .geq) [T 26, N 4096] 25 false,
   I 28 (.pick) [T 25, .lit (.bool true), T 27],
   I 22 (.mv) [T 28]])
 (.cond (T 22)
 (.seq (.region [I 10 (.mv) [N 2]])
  (.ret))
 (.seq (.region [I 30 (.mv) [T 12],
    I 31 (.un .not) [T 30],
    I 29 (.mv) [T 31]])
  (.cond (T 29)
  (.seq (.region [I 10 (.mv) [N 4]])
   (.ret))
  (.seq (.region [I 33 (.fieldAddr 5) [T 11],
     I 34 (.load1) [T 33],
     I 35 (.mv) [T 4],
     I 36 (.bin .and) [T 34, T 35],
     I 37 (.bin .eql) [T 36, N 0],
     I 32 (.mv) [T 37]])
   (.cond (T 32)
   (.seq (.region [I 10 (.mv) [N 3]])
    (.ret))
   (.seq (.region [I 39 (.fieldAddr 4) [T 11],
      I 40 (.load1) [T 39],
      I 41 (.mv) [T 40],
      IG 42 (.mv) [T 0] 41 false,
      IG 43 (.mv) [T 1] 41 false,
      IG 44 (.mv) [T 2] 41 false,
      IG 45 (.callv) [F 47, T 42, T 43, T 44] 41 false,
      IG 46 (.bin .eql) [T 45, N 0] 41 false,
      I 47 (.pick) [T 41, .lit (.bool true), T 46],
      I 48 (.mv) [T 47],
      IG 49 (.mv) [T 0] 48 true,
      IG 50 (.fieldAddr 2) [T 11] 48 true,
      IG 51 (.load1) [T 50] 48 true,
      IG 52 (.fieldAddr 3) [T 11] 48 true,
      IG 53 (.load1) [T 52] 48 true,
      IG 54 (.mv) [T 2] 48 true,
      IG 55 (.bin .add) [T 53, T 54] 48 true,
      IG 56 (.fieldAddr 0) [T 11] 48 true,
      IG 57 (.load1) [T 56] 48 true,
      IG 58 (.bin .sub) [T 55, T 57] 48 true,
      IG 59 (.callv) [F 49, T 49, T 51, T 58] 48 true,
      I 60 (.pick) [T 48, T 59, .lit (.bool false)],
      I 38 (.mv) [T 60]])
    (.cond (T 38)
    (.seq (.region [I 10 (.mv) [N 4]])
     (.ret))
    (.skip))))))))))
 (.seq (.region [I 10 (.mv) [N 0]])
 (.ret))))⟩
theorem t52 : trFn Tryz.prog Tryz.f52 = some c_kern_Kernel_allowed := by kernel_rfl
/-- (*pantry/kern.Kernel).find -/
abbrev n_kern_Kernel_find : Nat := 53
/-- live: [0, 1, 2, 3, 13] -/
def c_kern_Kernel_find_L0 : ACode :=
 .seq (.region [I 14 (.bin .lss) [T 13, N 3]])
 (.seq (.cond (T 14)
 (.skip)
 (.exit 0))
 (.seq (.block 1 (.seq (.seq (.region [I 16 (.mv) [T 0],
   I 17 (.mv) [T 1],
   I 18 (.mv) [T 2],
   I 19 (.mv) [T 3],
   I 20 (.callv) [F 129, T 16, T 17, T 18, T 19],
   I 15 (.mv) [T 20],
   I 21 (.extract 0) [T 15],
   I 22 (.extract 1) [T 15],
   I 10 (.mv) [T 21],
   I 11 (.mv) [T 22]])
 (.seq (.region [I 23 (.mv) [T 11]])
 (.cond (T 23)
 (.seq (.region [I 24 (.mv) [T 10],
    I 8 (.mv) [T 24],
    I 9 (.mv) [N 0]])
  (.ret))
 (.skip))))
 (.seq (.region [I 25 (.mv) [T 0],
   I 26 (.mv) [T 1],
   I 27 (.mv) [T 2],
   I 28 (.mv) [T 3],
   I 29 (.bin .eql) [T 28, N 2],
   I 30 (.callv) [F 130, T 25, T 26, T 27, T 29],
   I 12 (.mv) [T 30]])
 (.seq (.region [I 31 (.mv) [T 12],
   I 32 (.bin .neq) [T 31, N 0]])
 (.cond (T 32)
 (.seq (.region [I 33 (.mv) [T 12],
    I 8 (.mv) [N (-1)],
    I 9 (.mv) [T 33]])
  (.ret))
 (.skip))))))
 (.region [I 34 (.bin .add) [T 13, N 1],
   I 13 (.mv) [T 34]])))
def c_kern_Kernel_find : AFn := ⟨35, [.tmp 8, .tmp 9],
 .seq (.region [I 8 (.mv) [N 0],
   I 9 (.mv) [N 0]])
 (.seq (.seq (.region [I 13 (.mv) [N 0]])
 (.block 0 (.loop c_kern_Kernel_find_L0)))
 (.seq (.region [I 8 (.mv) [N (-1)],
   I 9 (.mv) [N 4]])
 (.ret)))⟩
theorem t53 : trFn Tryz.prog Tryz.f53 = some c_kern_Kernel_find := by kernel_rfl
/-- (*pantry/kern.Kernel).alone -/
abbrev n_kern_Kernel_alone : Nat := 55
/-- live: [3, 7] -/
def c_kern_Kernel_alone_A1 : ACode :=
 .seq (.region [I 8 (.mv) [T 30]])
 (.region [I 9 (.alloc 139 2 (.vals [(.int .i64 0), (.int .i64 0)])) [],
   J (.store 2) [T 9, T 31]])
def c_kern_Kernel_alone_B1 : ACode :=
 .block 3 (.seq (.region [I 32 (.fieldAddr 1) [T 9],
   I 33 (.load1) [T 32],
   I 34 (.load1) [T 3],
   I 35 (.bin .eql) [T 33, T 34]])
 (.cond (T 35)
 (.region [I 36 (.load1) [T 7],
    I 37 (.mv) [T 8],
    I 38 (.bslice 3 1 1 (.vals [(.int .i64 0)]) [0]) [T 37],
    I 39 (.append 3 1 8 (.vals [(.int .i64 0)])) [T 36, T 38],
    J (.store 1) [T 7, T 39]])
 (.skip)))
/-- live: [0, 3, 6, 13, 14, 15, 40, 41, 42] -/
def c_kern_Kernel_alone_L2 : ACode :=
 .seq (.region [I 43 (.bin .lss) [T 42, T 41]])
 (.seq (.cond (T 43)
 (.skip)
 (.exit 4))
 (.seq (.block 5 (.seq (.region [I 44 (.indexs 1) [T 40, T 42],
   I 45 (.load1) [T 44],
   I 11 (.mv) [T 45]])
 (.region [I 46 (.mv) [T 0],
   I 47 (.mv) [T 6],
   I 48 (.mv) [T 11],
   I 49 (.callv) [F 134, T 46, T 47, T 48]])))
 (.region [I 50 (.bin .add) [T 42, N 1],
   I 42 (.mv) [T 50]])))
/-- live: [0, 3, 13, 14, 15] -/
def c_kern_Kernel_alone_L0 : ACode :=
 .seq (.region [I 16 (.bin .lss) [T 15, T 14]])
 (.seq (.cond (T 16)
 (.skip)
 (.exit 0))
 (.seq (.block 1 (.seq (.region [I 17 (.indexs 1) [T 13, T 15],
   I 18 (.load1) [T 17],
   I 5 (.mv) [T 18]])
 (.seq (.region [I 19 (.mv) [T 0],
   I 20 (.nilCheck) [T 19],
   I 21 (.fieldAddr 9) [T 20],
   I 22 (.load1) [T 21],
   I 23 (.mv) [T 5],
   I 24 (.lookup (.scal .int) .nilptr false) [T 22, T 23],
   I 6 (.mv) [T 24]])
 (.seq (.region [I 7 (.alloc 34 1 (.vals [.nilsl])) []])
 (.seq (.seq (.region [I 25 (.mv) [T 6],
   I 26 (.nilCheck) [T 25],
   I 27 (.fieldAddr 2) [T 26],
   I 28 (.load1) [T 27],
   I 29 (.callv) [F 68, T 28]])
 (.block 2 (.rfun (T 29) [30, 31] c_kern_Kernel_alone_A1 c_kern_Kernel_alone_B1)))
 (.seq (.region [I 40 (.load1) [T 7],
   I 41 (.lens) [T 40],
   I 42 (.mv) [N 0]])
 (.block 4 (.loop c_kern_Kernel_alone_L2))))))))
 (.region [I 51 (.bin .add) [T 15, N 1],
   I 15 (.mv) [T 51]])))
def c_kern_Kernel_alone : AFn := ⟨52, [],
 .seq (.region [I 3 (.box 3 1) [T 1]])
 (.seq (.region [I 12 (.mv) [T 0],
   I 13 (.callv) [F 30, T 12],
   I 14 (.lens) [T 13],
   I 15 (.mv) [N 0]])
 (.block 0 (.loop c_kern_Kernel_alone_L0)))⟩
theorem t55 : trFn Tryz.prog Tryz.f55 = some c_kern_Kernel_alone := by kernel_rfl
/-- (*pantry/frames.Pool).Get -/
abbrev n_frames_Pool_Get : Nat := 56
def c_frames_Pool_Get : AFn := ⟨30, [.cell 4 (.loadn 5), .tmp 5],
 .seq (.region [I 4 (.alloc 114 5 (.vals [(.int .i64 0), (.int .i64 0), (.int .i64 0), (.int .i64 0), (.int .i64 0)])) [],
   I 5 (.mv) [.lit (.bool false)]])
 (.seq (.seq (.region [I 6 (.mv) [T 0],
   I 7 (.callv) [F 135, T 6],
   I 8 (.un .not) [T 7],
   I 9 (.mv) [T 8],
   IG 10 (.mv) [T 1] 9 false,
   IG 11 (.bin .lss) [T 10, N 0] 9 false,
   I 12 (.pick) [T 9, .lit (.bool true), T 11],
   I 13 (.mv) [T 12],
   IG 14 (.mv) [T 1] 13 false,
   IG 15 (.mv) [T 0] 13 false,
   IG 16 (.nilCheck) [T 15] 13 false,
   IG 17 (.fieldAddr 0) [T 16] 13 false,
   IG 18 (.load1) [T 17] 13 false,
   IG 19 (.lens) [T 18] 13 false,
   IG 20 (.bin .geq) [T 14, T 19] 13 false,
   I 21 (.pick) [T 13, .lit (.bool true), T 20]])
 (.cond (T 21)
 (.seq (.region [I 22 (.build (.agg [(.int .i64 0), (.int .i64 0), (.int .i64 0), (.int .i64 0), (.int .i64 0)]) []) [],
    J (.store 5) [T 4, T 22],
    I 5 (.mv) [.lit (.bool false)]])
  (.ret))
 (.skip)))
 (.seq (.region [I 23 (.mv) [T 0],
   I 24 (.nilCheck) [T 23],
   I 25 (.fieldAddr 0) [T 24],
   I 26 (.load1) [T 25],
   I 27 (.mv) [T 1],
   I 28 (.indexs 5) [T 26, T 27],
   I 29 (.loadn 5) [T 28],
   J (.store 5) [T 4, T 29],
   I 5 (.mv) [.lit (.bool true)]])
 (.ret)))⟩
theorem t56 : trFn Tryz.prog Tryz.f56 = some c_frames_Pool_Get := by kernel_rfl
/-- (*pantry/phys.Memory).Frames -/
abbrev n_phys_Memory_Frames : Nat := 58
def c_phys_Memory_Frames : AFn := ⟨10, [.tmp 2],
 .seq (.region [I 2 (.mv) [N 0]])
 (.seq (.seq (.region [I 3 (.mv) [T 0],
   I 4 (.eqv false .ptr) [T 3, .lit .nilptr]])
 (.cond (T 4)
 (.seq (.region [I 2 (.mv) [N 0]])
  (.ret))
 (.skip)))
 (.seq (.region [I 5 (.mv) [T 0],
   I 6 (.nilCheck) [T 5],
   I 7 (.fieldAddr 0) [T 6],
   I 8 (.load1) [T 7],
   I 9 (.lens) [T 8],
   I 2 (.mv) [T 9]])
 (.ret)))⟩
theorem t58 : trFn Tryz.prog Tryz.f58 = some c_phys_Memory_Frames := by kernel_rfl
/-- (*pantry/amap.Pool).Slots -/
abbrev n_amap_Pool_Slots : Nat := 61
def c_amap_Pool_Slots : AFn := ⟨16, [.tmp 4],
 .seq (.region [I 4 (.mv) [N 0]])
 (.seq (.seq (.region [I 6 (.mv) [T 0],
   I 7 (.mv) [T 1],
   I 8 (.callv) [F 139, T 6, T 7],
   I 5 (.mv) [T 8]])
 (.seq (.region [I 9 (.mv) [T 5],
   I 10 (.eqv true .ptr) [T 9, .lit .nilptr]])
 (.cond (T 10)
 (.seq (.region [I 11 (.mv) [T 5],
    I 12 (.nilCheck) [T 11],
    I 13 (.fieldAddr 1) [T 12],
    I 14 (.load1) [T 13],
    I 15 (.lens) [T 14],
    I 4 (.mv) [T 15]])
  (.ret))
 (.skip))))
 (.seq (.region [I 4 (.mv) [N 0]])
 (.ret)))⟩
theorem t61 : trFn Tryz.prog Tryz.f61 = some c_amap_Pool_Slots := by kernel_rfl
/-- (*pantry/amap.Pool).Cover -/
abbrev n_amap_Pool_Cover : Nat := 62
def c_amap_Pool_Cover : AFn := ⟨20, [.tmp 6],
 .seq (.region [I 6 (.mv) [N 0]])
 (.seq (.region [I 8 (.mv) [T 0],
   I 9 (.mv) [T 1],
   I 10 (.callv) [F 139, T 8, T 9],
   I 7 (.mv) [T 10]])
 (.seq (.seq (.region [I 11 (.mv) [T 7],
   I 12 (.eqv false .ptr) [T 11, .lit .nilptr]])
 (.cond (T 12)
 (.seq (.region [I 6 (.mv) [N 0]])
  (.ret))
 (.skip)))
 (.seq (.region [I 13 (.mv) [T 7],
   I 14 (.nilCheck) [T 13],
   I 15 (.fieldAddr 0) [T 14],
   I 16 (.load1) [T 15],
   I 17 (.mv) [T 2],
   I 18 (.callv) [F 140, T 16, T 17],
   I 19 (.max) [T 18, N 0],
   I 6 (.mv) [T 19]])
 (.ret))))⟩
theorem t62 : trFn Tryz.prog Tryz.f62 = some c_amap_Pool_Cover := by kernel_rfl
/-- (*pantry/amap.Pool).Get -/
abbrev n_amap_Pool_Get : Nat := 63
def c_amap_Pool_Get : AFn := ⟨25, [.tmp 6],
 .seq (.region [I 6 (.mv) [N 0]])
 (.seq (.seq (.region [I 7 (.mv) [T 2],
   I 8 (.bin .lss) [T 7, N 0],
   I 9 (.mv) [T 8],
   IG 10 (.mv) [T 2] 9 false,
   IG 11 (.mv) [T 0] 9 false,
   IG 12 (.mv) [T 1] 9 false,
   IG 13 (.callv) [F 61, T 11, T 12] 9 false,
   IG 14 (.bin .geq) [T 10, T 13] 9 false,
   I 15 (.pick) [T 9, .lit (.bool true), T 14]])
 (.cond (T 15)
 (.seq (.region [I 6 (.mv) [N 0]])
  (.ret))
 (.skip)))
 (.seq (.region [I 16 (.mv) [T 0],
   I 17 (.mv) [T 1],
   I 18 (.callv) [F 139, T 16, T 17],
   I 19 (.nilCheck) [T 18],
   I 20 (.fieldAddr 1) [T 19],
   I 21 (.load1) [T 20],
   I 22 (.mv) [T 2],
   I 23 (.indexs 1) [T 21, T 22],
   I 24 (.load1) [T 23],
   I 6 (.mv) [T 24]])
 (.ret)))⟩
theorem t63 : trFn Tryz.prog Tryz.f63 = some c_amap_Pool_Get := by kernel_rfl
/-- (*pantry/object.Pool).Ids -/
abbrev n_object_Pool_Ids : Nat := 64
def c_object_Pool_Ids : AFn := ⟨12, [.tmp 2],
 .seq (.region [I 2 (.mv) [.lit .nilsl]])
 (.seq (.seq (.region [I 3 (.mv) [T 0],
   I 4 (.callv) [F 141, T 3],
   I 5 (.un .not) [T 4]])
 (.cond (T 5)
 (.seq (.region [I 2 (.mv) [.lit .nilsl]])
  (.ret))
 (.skip)))
 (.seq (.region [I 6 (.mv) [T 0],
   I 7 (.nilCheck) [T 6],
   I 8 (.fieldAddr 2) [T 7],
   I 9 (.load1) [T 8],
   I 10 (.callv) [F 142, T 9],
   I 11 (.callv) [F 37, T 10],
   I 2 (.mv) [T 11]])
 (.ret)))⟩
theorem t64 : trFn Tryz.prog Tryz.f64 = some c_object_Pool_Ids := by kernel_rfl
/-- (*pantry/pmap.Map).All -/
abbrev n_pmap_Map_All : Nat := 68
def c_pmap_Map_All : AFn := ⟨4, [.tmp 2],
 .seq (.region [I 1 (.box 97 1) [T 0],
   I 2 (.mv) [.lit .nilfunc]])
 (.seq (.region [I 3 (.mkfunc 147 0) [T 1],
   I 2 (.mv) [T 3]])
 (.ret))⟩
theorem t68 : trFn Tryz.prog Tryz.f68 = some c_pmap_Map_All := by kernel_rfl
/-- (*pantry/kern.Kernel).enter -/
abbrev n_kern_Kernel_enter : Nat := 74
/-- live: [0, 1, 6, 8, 90, 91, 92] -/
def c_kern_Kernel_enter_L0 : ACode :=
 .seq (.region [I 93 (.bin .lss) [T 92, T 91]])
 (.seq (.cond (T 93)
 (.skip)
 (.exit 1))
 (.seq (.block 2 (.seq (.region [I 94 (.indexs 10) [T 90, T 92],
   I 95 (.loadn 10) [T 94],
   I 12 (.alloc 94 10 (.vals [(.int .i64 0), (.int .i64 0), (.int .i64 0), (.int .i64 0), (.bool false), (.int .i64 0), (.int .i64 0), (.int .i64 0), (.int .i64 0), (.bool false)])) [],
   J (.store 10) [T 12, T 95]])
 (.region [I 96 (.mv) [T 0],
   I 97 (.mv) [T 1],
   I 98 (.fieldAddr 0) [T 12],
   I 99 (.load1) [T 98],
   I 100 (.fieldAddr 1) [T 12],
   I 101 (.load1) [T 100],
   I 102 (.callv) [F 161, T 96, T 97, T 99, T 101]])))
 (.region [I 103 (.bin .add) [T 92, N 1],
   I 92 (.mv) [T 103]])))
def c_kern_Kernel_enter : AFn := ⟨108, [.cell 6 (.loadn 2)],
 .seq (.region [I 5 (.box 23 14) [T 2],
   I 6 (.alloc 73 2 (.vals [(.int .i64 0), (.int .i64 0)])) []])
 (.seq (.block 0 (.seq (.region [I 14 (.fieldAddr 6) [T 5],
   I 15 (.load1) [T 14],
   I 16 (.bin .gtr) [T 15, N 0],
   I 17 (.mv) [T 16],
   IG 18 (.mv) [T 0] 17 true,
   IG 19 (.fieldAddr 6) [T 5] 17 true,
   IG 20 (.load1) [T 19] 17 true,
   IG 21 (.callv) [F 51, T 18, T 20] 17 true,
   IG 22 (.un .not) [T 21] 17 true,
   I 23 (.pick) [T 17, T 22, .lit (.bool false)],
   I 13 (.mv) [T 23]])
 (.cond (T 13)
 (.seq (.region [I 24 (.callv) [F 72, N 7],
    J (.store 2) [T 6, T 24]])
  (.ret))
 (.seq (.region [I 26 (.fieldAddr 6) [T 5],
    I 27 (.load1) [T 26],
    I 28 (.bin .eql) [T 27, N 0],
    I 29 (.mv) [T 28],
    IG 30 (.fieldAddr 7) [T 5] 29 true,
    IG 31 (.load1) [T 30] 29 true,
    IG 32 (.bin .neq) [T 31, N 0] 29 true,
    I 33 (.pick) [T 29, T 32, .lit (.bool false)],
    I 25 (.mv) [T 33]])
  (.cond (T 25)
  (.seq (.region [I 34 (.callv) [F 72, N 2],
     J (.store 2) [T 6, T 34]])
   (.ret))
  (.skip))))))
 (.seq (.region [I 35 (.fieldAddr 3) [T 5],
   I 36 (.load1) [T 35],
   I 37 (.fieldAddr 6) [T 5],
   I 38 (.load1) [T 37],
   I 39 (.fieldAddr 7) [T 5],
   I 40 (.load1) [T 39],
   I 41 (.fieldAddr 5) [T 5],
   I 42 (.load1) [T 41],
   I 43 (.fieldAddr 4) [T 5],
   I 44 (.load1) [T 43],
   I 45 (.build (.agg [(.int .i64 0), (.int .i64 0), (.int .i64 0), (.int .i64 0), (.bool false), (.int .i64 0), (.int .i64 0), (.int .i64 0), (.int .i64 0), (.bool false)]) [(1, 1), (2, 1), (3, 1), (4, 1), (5, 1), (6, 1)]) [T 36, T 38, T 40, T 42, T 44, N 7],
   I 7 (.alloc 94 10 (.vals [(.int .i64 0), (.int .i64 0), (.int .i64 0), (.int .i64 0), (.bool false), (.int .i64 0), (.int .i64 0), (.int .i64 0), (.int .i64 0), (.bool false)])) [],
   J (.store 10) [T 7, T 45]])
 (.seq (.seq (.region [I 46 (.fieldAddr 5) [T 5],
   I 47 (.load1) [T 46]])
 (.cond (T 47)
 (.region [I 48 (.fieldAddr 7) [T 7],
    J (.store 1) [T 48, N 1]])
 (.skip)))
 (.seq (.seq (.region [I 49 (.fieldAddr 5) [T 5],
   I 50 (.load1) [T 49],
   I 51 (.mv) [T 50],
   IG 52 (.fieldAddr 6) [T 5] 51 true,
   IG 53 (.load1) [T 52] 51 true,
   IG 54 (.bin .eql) [T 53, N 0] 51 true,
   I 55 (.pick) [T 51, T 54, .lit (.bool false)]])
 (.cond (T 55)
 (.region [I 56 (.mv) [T 0],
    I 57 (.nilCheck) [T 56],
    I 58 (.fieldAddr 10) [T 57],
    I 59 (.load1) [T 58],
    I 60 (.bin .add) [T 59, N 1],
    I 61 (.fieldAddr 2) [T 7],
    J (.store 1) [T 61, T 60]])
 (.skip)))
 (.seq (.draw [[⟨0, I 63 (.mv) [T 1], [], false⟩,
   ⟨1, I 64 (.nilCheck) [T 63], [], false⟩,
   ⟨2, I 65 (.fieldAddr 1) [T 64], [], false⟩,
   ⟨3, I 66 (.load1) [T 65], [], false⟩,
   ⟨4, I 67 (.fieldAddr 2) [T 5], [], false⟩,
   ⟨5, I 68 (.load1) [T 67], [], false⟩,
   ⟨6, I 69 (.loadn 10) [T 7], [], false⟩,
   ⟨7, I 70 (.fieldAddr 8) [T 5], [], false⟩,
   ⟨8, I 71 (.load1) [T 70], [], false⟩,
   ⟨9, I 72 (.callv) [F 160, T 66, T 68, T 69, T 71], [], false⟩,
   ⟨10, I 62 (.mv) [T 72], [], false⟩,
   ⟨11, I 73 (.extract 0) [T 62], [], false⟩,
   ⟨12, I 74 (.extract 1) [T 62], [], false⟩,
   ⟨13, I 75 (.extract 2) [T 62], [], false⟩,
   ⟨14, I 8 (.mv) [T 73], [], false⟩,
   ⟨15, I 9 (.mv) [T 74], [], false⟩,
   ⟨16, I 10 (.mv) [T 75], [], false⟩]])
 (.seq (.seq (.region [I 76 (.mv) [T 10],
   I 77 (.bin .neq) [T 76, N 0]])
 (.cond (T 77)
 (.seq (.region [I 78 (.mv) [T 10],
    I 79 (.callv) [F 72, T 78],
    J (.store 2) [T 6, T 79]])
  (.ret))
 (.skip)))
 (.seq (.draw [[⟨0, I 80 (.mv) [T 0], [], false⟩,
   ⟨1, I 81 (.mv) [T 0], [], false⟩,
   ⟨2, I 82 (.nilCheck) [T 81], [], false⟩,
   ⟨3, I 83 (.fieldAddr 10) [T 82], [], false⟩,
   ⟨4, I 84 (.load1) [T 83], [], false⟩,
   ⟨5, I 85 (.fieldAddr 2) [T 7], [], false⟩,
   ⟨6, I 86 (.load1) [T 85], [], false⟩,
   ⟨7, I 87 (.max) [T 84, T 86], [], false⟩,
   ⟨8, I 88 (.nilCheck) [T 80], [], false⟩,
   ⟨9, I 89 (.fieldAddr 10) [T 88], [], false⟩,
   ⟨10, J (.store 1) [T 89, T 87], [], false⟩]])
 (.seq (.seq (.region [I 90 (.mv) [T 9],
   I 91 (.lens) [T 90],
   I 92 (.mv) [N 0]])
 (.block 1 (.loop c_kern_Kernel_enter_L0)))
 (.seq (.region [I 104 (.mv) [T 0],
   I 105 (.callv) [F 162, T 104]])
 (.seq (.region [I 106 (.mv) [T 8],
   I 107 (.build (.agg [(.int .i64 0), (.int .i64 0)]) [(1, 1)]) [T 106],
   J (.store 2) [T 6, T 107]])
 (.ret)))))))))))⟩
theorem t74 : trFn Tryz.prog Tryz.f74 = some c_kern_Kernel_enter := by kernel_rfl
/-- (*pantry/kern.Kernel).access -/
abbrev n_kern_Kernel_access : Nat := 75
def c_kern_Kernel_access : AFn := ⟨79, [.cell 6 (.loadn 2)],
 .seq (.region [I 5 (.box 23 14) [T 2],
   I 6 (.alloc 73 2 (.vals [(.int .i64 0), (.int .i64 0)])) []])
 (.seq (.region [I 7 (.mv) [N 1]])
 (.seq (.seq (.region [I 13 (.fieldAddr 0) [T 5],
   I 14 (.load1) [T 13],
   I 15 (.bin .eql) [T 14, N 9]])
 (.cond (T 15)
 (.seq (.region [I 7 (.mv) [N 2]])
  (.seq (.region [I 16 (.fieldAddr 11) [T 5],
    I 17 (.load1) [T 16],
    I 18 (.bin .lss) [T 17, N 0],
    I 19 (.mv) [T 18],
    IG 20 (.fieldAddr 11) [T 5] 19 false,
    IG 21 (.load1) [T 20] 19 false,
    IG 22 (.bin .gtr) [T 21, N 255] 19 false,
    I 23 (.pick) [T 19, .lit (.bool true), T 22]])
  (.cond (T 23)
  (.seq (.region [I 24 (.callv) [F 72, N 2],
     J (.store 2) [T 6, T 24]])
   (.ret))
  (.skip))))
 (.skip)))
 (.seq (.seq (.region [I 25 (.mv) [T 0],
   I 26 (.mv) [T 1],
   I 27 (.fieldAddr 2) [T 5],
   I 28 (.load1) [T 27],
   I 29 (.fieldAddr 10) [T 5],
   I 30 (.load1) [T 29],
   I 31 (.mv) [T 7],
   I 32 (.callv) [F 52, T 25, T 26, T 28, T 30, T 31],
   I 8 (.mv) [T 32]])
 (.seq (.region [I 33 (.mv) [T 8],
   I 34 (.bin .neq) [T 33, N 0]])
 (.cond (T 34)
 (.seq (.region [I 35 (.mv) [T 8],
    I 36 (.callv) [F 72, T 35],
    J (.store 2) [T 6, T 36]])
  (.ret))
 (.skip))))
 (.seq (.region [I 38 (.mv) [T 0],
   I 39 (.mv) [T 1],
   I 40 (.fieldAddr 2) [T 5],
   I 41 (.load1) [T 40],
   I 42 (.mv) [T 7],
   I 43 (.callv) [F 53, T 38, T 39, T 41, T 42],
   I 37 (.mv) [T 43],
   I 44 (.extract 0) [T 37],
   I 45 (.extract 1) [T 37],
   I 9 (.mv) [T 44],
   I 10 (.mv) [T 45]])
 (.seq (.seq (.region [I 46 (.mv) [T 10],
   I 47 (.bin .neq) [T 46, N 0]])
 (.cond (T 47)
 (.seq (.region [I 48 (.mv) [T 10],
    I 49 (.callv) [F 72, T 48],
    J (.store 2) [T 6, T 49]])
  (.ret))
 (.skip)))
 (.seq (.seq (.region [I 50 (.fieldAddr 0) [T 5],
   I 51 (.load1) [T 50],
   I 52 (.bin .eql) [T 51, N 9]])
 (.cond (T 52)
 (.seq (.draw [[⟨0, I 53 (.mv) [T 0], [], false⟩,
    ⟨1, I 54 (.nilCheck) [T 53], [], false⟩,
    ⟨2, I 55 (.fieldAddr 0) [T 54], [], false⟩,
    ⟨3, I 56 (.load1) [T 55], [], false⟩,
    ⟨4, I 57 (.mv) [T 9], [], false⟩,
    ⟨5, I 58 (.fieldAddr 10) [T 5], [], false⟩,
    ⟨6, I 59 (.load1) [T 58], [], false⟩,
    ⟨7, I 60 (.fieldAddr 11) [T 5], [], false⟩,
    ⟨8, I 61 (.load1) [T 60], [], false⟩,
    ⟨9, I 62 (.conv .u8) [T 61], [], false⟩,
    ⟨10, I 63 (.callv) [F 159, T 56, T 57, T 59, T 62], [], false⟩]])
  (.seq (.region [I 64 (.build (.agg [(.int .i64 0), (.int .i64 0)]) []) [],
    J (.store 2) [T 6, T 64]])
  (.ret)))
 (.skip)))
 (.seq (.draw [[⟨0, I 66 (.mv) [T 0], [], false⟩,
   ⟨1, I 67 (.nilCheck) [T 66], [], false⟩,
   ⟨2, I 68 (.fieldAddr 0) [T 67], [], false⟩,
   ⟨3, I 69 (.load1) [T 68], [], false⟩,
   ⟨4, I 70 (.mv) [T 9], [], false⟩,
   ⟨5, I 71 (.fieldAddr 10) [T 5], [], false⟩,
   ⟨6, I 72 (.load1) [T 71], [], false⟩,
   ⟨7, I 73 (.callv) [F 57, T 69, T 70, T 72], [], false⟩,
   ⟨8, I 65 (.mv) [T 73], [], false⟩,
   ⟨9, I 74 (.extract 0) [T 65], [], false⟩,
   ⟨10, I 75 (.extract 1) [T 65], [], false⟩,
   ⟨11, I 11 (.mv) [T 74], [], false⟩,
   ⟨12, I 12 (.mv) [T 75], [], false⟩]])
 (.seq (.region [I 76 (.mv) [T 11],
   I 77 (.conv .i64) [T 76],
   I 78 (.build (.agg [(.int .i64 0), (.int .i64 0)]) [(1, 1)]) [T 77],
   J (.store 2) [T 6, T 78]])
 (.ret)))))))))⟩
theorem t75 : trFn Tryz.prog Tryz.f75 = some c_kern_Kernel_access := by kernel_rfl
/-- (*pantry/pmap.Map).Clear -/
abbrev n_pmap_Map_Clear : Nat := 80
def c_pmap_Map_Clear : AFn := ⟨13, [.tmp 6],
 .seq (.region [I 5 (.box 3 1) [T 2],
   I 6 (.mv) [N 0]])
 (.seq (.region [I 7 (.alloc 3 1 (.vals [(.int .i64 0)])) [],
   J (.store 1) [T 7, N 0]])
 (.seq (.region [I 8 (.mv) [T 0],
   I 9 (.mv) [T 1],
   I 10 (.mkfunc 181 0) [T 5, T 7],
   I 11 (.callv) [F 180, T 8, T 9, T 10]])
 (.seq (.region [I 12 (.load1) [T 7],
   I 6 (.mv) [T 12]])
 (.ret))))⟩
theorem t80 : trFn Tryz.prog Tryz.f80 = some c_pmap_Map_Clear := by kernel_rfl
/-- (*pantry/tlb.Table).Flush -/
abbrev n_tlb_Table_Flush : Nat := 81
def c_tlb_Table_Flush : AFn := ⟨9, [.tmp 4],
 .seq (.region [I 3 (.box 150 2) [T 1],
   I 4 (.mv) [.lit (.bool false)]])
 (.seq (.region [I 5 (.mv) [T 0],
   I 6 (.mkfunc 183 0) [T 3],
   I 7 (.callv) [F 182, T 5, T 6],
   I 8 (.bin .gtr) [T 7, N 0],
   I 4 (.mv) [T 8]])
 (.ret))⟩
theorem t81 : trFn Tryz.prog Tryz.f81 = some c_tlb_Table_Flush := by kernel_rfl
/-- (*pantry/kern.Kernel).wired -/
abbrev n_kern_Kernel_wired : Nat := 82
/-- live: [0, 3, 6, 8, 9, 14, 23, 24, 25] -/
def c_kern_Kernel_wired_L2 : ACode :=
 .seq (.seq (.region [I 31 (.fieldAddr 9) [T 8],
   I 32 (.load1) [T 31],
   I 33 (.mv) [T 32],
   IG 34 (.mv) [T 9] 33 true,
   IG 35 (.fieldAddr 1) [T 8] 33 true,
   IG 36 (.load1) [T 35] 33 true,
   IG 37 (.bin .lss) [T 34, T 36] 33 true,
   I 38 (.pick) [T 33, T 37, .lit (.bool false)]])
 (.cond (T 38)
 (.skip)
 (.exit 4)))
 (.seq (.block 5 (.seq (.region [I 41 (.mv) [T 0],
   I 42 (.mv) [T 6],
   I 43 (.loadn 10) [T 8],
   I 44 (.mv) [T 9],
   I 45 (.loadn 5) [T 3],
   I 46 (.callv) [F 184, T 41, T 42, T 43, T 44, T 45]])
 (.cond (T 46)
 (.seq (.region [I 4 (.mv) [.lit (.bool true)]])
  (.ret))
 (.skip))))
 (.region [I 39 (.mv) [T 9],
   I 40 (.bin .add) [T 39, N 1],
   I 9 (.mv) [T 40]]))
/-- live: [0, 3, 6, 14, 23, 24, 25] -/
def c_kern_Kernel_wired_L1 : ACode :=
 .seq (.region [I 26 (.bin .lss) [T 25, T 24]])
 (.seq (.cond (T 26)
 (.skip)
 (.exit 2))
 (.seq (.block 3 (.seq (.region [I 27 (.indexs 10) [T 23, T 25],
   I 28 (.loadn 10) [T 27],
   I 8 (.alloc 94 10 (.vals [(.int .i64 0), (.int .i64 0), (.int .i64 0), (.int .i64 0), (.bool false), (.int .i64 0), (.int .i64 0), (.int .i64 0), (.int .i64 0), (.bool false)])) [],
   J (.store 10) [T 8, T 28]])
 (.seq (.region [I 29 (.fieldAddr 0) [T 8],
   I 30 (.load1) [T 29],
   I 9 (.mv) [T 30]])
 (.block 4 (.loop c_kern_Kernel_wired_L2)))))
 (.region [I 47 (.bin .add) [T 25, N 1],
   I 25 (.mv) [T 47]])))
/-- live: [0, 3, 14] -/
def c_kern_Kernel_wired_L0 : ACode :=
 .seq (.region [I 15 (.next) [T 14],
   I 16 (.extract 0) [T 15]])
 (.seq (.cond (T 16)
 (.skip)
 (.exit 0))
 (.block 1 (.seq (.region [I 17 (.entry) [T 14],
   I 18 (.extract 1) [T 17],
   I 6 (.mv) [T 18]])
 (.seq (.region [I 19 (.mv) [T 6],
   I 20 (.nilCheck) [T 19],
   I 21 (.fieldAddr 1) [T 20],
   I 22 (.load1) [T 21],
   I 23 (.callv) [F 96, T 22],
   I 24 (.lens) [T 23],
   I 25 (.mv) [N 0]])
 (.block 2 (.loop c_kern_Kernel_wired_L1))))))
def c_kern_Kernel_wired : AFn := ⟨48, [.tmp 4],
 .seq (.region [I 3 (.box 114 5) [T 1],
   I 4 (.mv) [.lit (.bool false)]])
 (.seq (.seq (.region [I 10 (.mv) [T 0],
   I 11 (.nilCheck) [T 10],
   I 12 (.fieldAddr 9) [T 11],
   I 13 (.load1) [T 12],
   I 14 (.range) [T 13]])
 (.block 0 (.loop c_kern_Kernel_wired_L0)))
 (.seq (.region [I 4 (.mv) [.lit (.bool false)]])
 (.ret)))⟩
theorem t82 : trFn Tryz.prog Tryz.f82 = some c_kern_Kernel_wired := by kernel_rfl
/-- (*pantry/phys.Memory).Page -/
abbrev n_phys_Memory_Page : Nat := 85
def c_phys_Memory_Page : AFn := ⟨15, [.tmp 4],
 .seq (.region [I 4 (.mv) [.lit .nilsl]])
 (.seq (.region [I 6 (.mv) [T 0],
   I 7 (.mv) [T 1],
   I 8 (.callv) [F 136, T 6, T 7],
   I 5 (.mv) [T 8]])
 (.seq (.seq (.region [I 9 (.mv) [T 5],
   I 10 (.eqv false .ptr) [T 9, .lit .nilptr]])
 (.cond (T 10)
 (.seq (.region [I 4 (.mv) [.lit .nilsl]])
  (.ret))
 (.skip)))
 (.seq (.region [I 11 (.mv) [T 5],
   I 12 (.nilCheck) [T 11],
   I 13 (.slicea 4096 1 false false false) [T 12],
   I 14 (.append 5 1 1 (.bytes 1 0)) [.lit .nilsl, T 13],
   I 4 (.mv) [T 14]])
 (.ret))))⟩
theorem t85 : trFn Tryz.prog Tryz.f85 = some c_phys_Memory_Page := by kernel_rfl
/-- (*pantry/kern.Kernel).leave -/
abbrev n_kern_Kernel_leave : Nat := 86
def c_kern_Kernel_leave : AFn := ⟨33, [],
 .seq (.region [I 6 (.mv) [T 0],
   I 7 (.mv) [T 1],
   I 8 (.callv) [F 55, T 6, T 7]])
 (.seq (.region [I 10 (.mv) [T 0],
   I 11 (.nilCheck) [T 10],
   I 12 (.fieldAddr 1) [T 11],
   I 13 (.load1) [T 12],
   I 14 (.mv) [T 1],
   I 15 (.callv) [F 56, T 13, T 14],
   I 9 (.mv) [T 15],
   I 16 (.extract 0) [T 9],
   I 17 (.extract 1) [T 9],
   I 4 (.alloc 114 5 (.vals [(.int .i64 0), (.int .i64 0), (.int .i64 0), (.int .i64 0), (.int .i64 0)])) [],
   J (.store 5) [T 4, T 16],
   I 5 (.mv) [T 17]])
 (.seq (.region [I 18 (.fieldAddr 4) [T 4],
   I 19 (.load1) [T 18],
   I 20 (.bin .gtr) [T 19, N 0]])
 (.cond (T 20)
 (.region [I 21 (.mv) [T 0],
    I 22 (.nilCheck) [T 21],
    I 23 (.fieldAddr 1) [T 22],
    I 24 (.load1) [T 23],
    I 25 (.mv) [T 1],
    I 26 (.callv) [F 186, T 24, T 25, N 4, N 0, N 0]])
 (.region [I 27 (.mv) [T 0],
    I 28 (.nilCheck) [T 27],
    I 29 (.fieldAddr 1) [T 28],
    I 30 (.load1) [T 29],
    I 31 (.mv) [T 1],
    I 32 (.callv) [F 91, T 30, T 31]]))))⟩
theorem t86 : trFn Tryz.prog Tryz.f86 = some c_kern_Kernel_leave := by kernel_rfl
/-- (*pantry/kern.Kernel).stow -/
abbrev n_kern_Kernel_stow : Nat := 88
/-- live: [0, 1, 6] -/
def c_kern_Kernel_stow_L0 : ACode :=
 .block 1 (.seq (.region [I 10 (.mv) [T 0],
   I 11 (.nilCheck) [T 10],
   I 12 (.fieldAddr 3) [T 11],
   I 13 (.load1) [T 12],
   I 14 (.callv) [F 188, T 13],
   I 9 (.mv) [T 14],
   I 15 (.extract 0) [T 9],
   I 16 (.extract 1) [T 9],
   I 7 (.mv) [T 15],
   I 8 (.mv) [T 16]])
 (.seq (.seq (.region [I 17 (.mv) [T 8],
   I 18 (.un .not) [T 17]])
 (.cond (T 18)
 (.seq (.region [I 19 (.mv) [T 6],
    I 4 (.mv) [N (-1)],
    I 5 (.mv) [T 19]])
  (.ret))
 (.skip)))
 (.seq (.seq (.draw [[⟨0, I 20 (.mv) [T 0], [], false⟩,
   ⟨1, I 21 (.nilCheck) [T 20], [], false⟩,
   ⟨2, I 22 (.fieldAddr 2) [T 21], [], false⟩,
   ⟨3, I 23 (.load1) [T 22], [], false⟩,
   ⟨4, I 24 (.mv) [T 7], [], false⟩,
   ⟨5, I 25 (.mv) [T 0], [], false⟩,
   ⟨6, I 26 (.nilCheck) [T 25], [], false⟩,
   ⟨7, I 27 (.fieldAddr 0) [T 26], [], false⟩,
   ⟨8, I 28 (.load1) [T 27], [], false⟩,
   ⟨9, I 29 (.mv) [T 1], [], false⟩,
   ⟨10, I 30 (.callv) [F 85, T 28, T 29], [(3, I 23 (.load1) [T 22])], false⟩,
   ⟨11, I 31 (.callv) [F 189, T 23, T 24, T 30], [], false⟩,
   ⟨12, I 6 (.mv) [T 31], [], false⟩]])
 (.seq (.region [I 32 (.mv) [T 6],
   I 33 (.bin .eql) [T 32, N 0]])
 (.cond (T 33)
 (.seq (.region [I 34 (.mv) [T 7],
    I 4 (.mv) [T 34],
    I 5 (.mv) [N 0]])
  (.ret))
 (.skip))))
 (.region [I 35 (.mv) [T 0],
   I 36 (.nilCheck) [T 35],
   I 37 (.fieldAddr 3) [T 36],
   I 38 (.load1) [T 37],
   I 39 (.mv) [T 7],
   I 40 (.callv) [F 190, T 38, T 39]]))))
def c_kern_Kernel_stow : AFn := ⟨41, [.tmp 4, .tmp 5],
 .seq (.region [I 4 (.mv) [N 0],
   I 5 (.mv) [N 0]])
 (.seq (.region [I 6 (.mv) [N 5]])
 (.block 0 (.loop c_kern_Kernel_stow_L0)))⟩
theorem t88 : trFn Tryz.prog Tryz.f88 = some c_kern_Kernel_stow := by kernel_rfl
/-- (*pantry/anon.Pool).Put -/
abbrev n_anon_Pool_Put : Nat := 90
def c_anon_Pool_Put : AFn := ⟨19, [.tmp 8],
 .seq (.region [I 6 (.box 3 1) [T 2],
   I 7 (.box 3 1) [T 3],
   I 8 (.mv) [N 0]])
 (.seq (.region [I 12 (.mv) [T 0],
   I 13 (.mv) [T 1],
   I 14 (.mkfunc 192 0) [T 6, T 7],
   I 15 (.callv) [F 191, T 12, T 13, T 14],
   I 11 (.mv) [T 15],
   I 16 (.extract 0) [T 11],
   I 17 (.extract 1) [T 11],
   I 9 (.alloc 103 3 (.vals [(.int .i64 0), (.int .i64 0), (.int .i64 0)])) [],
   J (.store 3) [T 9, T 16],
   I 10 (.mv) [T 17]])
 (.seq (.region [I 18 (.mv) [T 10],
   I 8 (.mv) [T 18]])
 (.ret)))⟩
theorem t90 : trFn Tryz.prog Tryz.f90 = some c_anon_Pool_Put := by kernel_rfl
/-- (*pantry/frames.Pool).Give -/
abbrev n_frames_Pool_Give : Nat := 91
def c_frames_Pool_Give : AFn := ⟨8, [.tmp 4],
 .seq (.region [I 4 (.mv) [N 0]])
 (.seq (.region [I 5 (.mv) [T 0],
   I 6 (.mv) [T 1],
   I 7 (.callv) [F 131, T 5, T 6, F 193],
   I 4 (.mv) [T 7]])
 (.ret))⟩
theorem t91 : trFn Tryz.prog Tryz.f91 = some c_frames_Pool_Give := by kernel_rfl
/-- (*pantry/frames.Pool).Free -/
abbrev n_frames_Pool_Free : Nat := 94
def c_frames_Pool_Free : AFn := ⟨5, [.tmp 2],
 .seq (.region [I 2 (.mv) [N 0]])
 (.seq (.region [I 3 (.mv) [T 0],
   I 4 (.callv) [F 195, T 3, N 0],
   I 2 (.mv) [T 4]])
 (.ret))⟩
theorem t94 : trFn Tryz.prog Tryz.f94 = some c_frames_Pool_Free := by kernel_rfl
/-- maps.Keys[map[int]*pantry/kern.proc,int,*pantry/kern.proc] -/
abbrev n_maps_Keys_map_int_kern_proc_int_kern_proc : Nat := 95
def c_maps_Keys_map_int_kern_proc_int_kern_proc : AFn := ⟨4, [.tmp 2],
 .seq (.region [I 1 (.box 56 1) [T 0],
   I 2 (.mv) [.lit .nilfunc]])
 (.seq (.region [I 3 (.mkfunc 196 0) [T 1],
   I 2 (.mv) [T 3]])
 (.ret))⟩
theorem t95 : trFn Tryz.prog Tryz.f95 = some c_maps_Keys_map_int_kern_proc_int_kern_proc := by kernel_rfl
/-- (*pantry/vmap.Map).Entries -/
abbrev n_vmap_Map_Entries : Nat := 96
def c_vmap_Map_Entries : AFn := ⟨11, [.tmp 2],
 .seq (.region [I 2 (.mv) [.lit .nilsl]])
 (.seq (.seq (.region [I 3 (.mv) [T 0],
   I 4 (.callv) [F 121, T 3],
   I 5 (.un .not) [T 4]])
 (.cond (T 5)
 (.seq (.region [I 2 (.mv) [.lit .nilsl]])
  (.ret))
 (.skip)))
 (.seq (.region [I 6 (.mv) [T 0],
   I 7 (.nilCheck) [T 6],
   I 8 (.fieldAddr 0) [T 7],
   I 9 (.load1) [T 8],
   I 10 (.callv) [F 197, T 9],
   I 2 (.mv) [T 10]])
 (.ret)))⟩
theorem t96 : trFn Tryz.prog Tryz.f96 = some c_vmap_Map_Entries := by kernel_rfl
/-- pantry/kern.may -/
abbrev n_kern_may : Nat := 97
def c_kern_may : AFn := ⟨55, [.tmp 4],
 .seq (.region [I 2 (.box 82 4) [T 0],
   I 4 (.mv) [.lit (.bool false)]])
 (.seq (.region [I 5 (.mv) [F 198]])
 (.seq (.seq (.region [I 6 (.fieldAddr 0) [T 2],
   I 7 (.load1) [T 6],
   I 8 (.bin .lss) [T 7, N 1],
   I 9 (.mv) [T 8],
   IG 10 (.fieldAddr 0) [T 2] 9 false,
   IG 11 (.load1) [T 10] 9 false,
   IG 12 (.bin .gtr) [T 11, N 256] 9 false,
   I 13 (.pick) [T 9, .lit (.bool true), T 12],
   I 14 (.mv) [T 13],
   IG 15 (.fieldAddr 1) [T 2] 14 false,
   IG 16 (.load1) [T 15] 14 false,
   IG 17 (.bin .lss) [T 16, N 0] 14 false,
   I 18 (.pick) [T 14, .lit (.bool true), T 17],
   I 19 (.mv) [T 18],
   IG 20 (.fieldAddr 1) [T 2] 19 false,
   IG 21 (.load1) [T 20] 19 false,
   IG 22 (.fieldAddr 0) [T 2] 19 false,
   IG 23 (.load1) [T 22] 19 false,
   IG 24 (.bin .gtr) [T 21, T 23] 19 false,
   I 25 (.pick) [T 19, .lit (.bool true), T 24]])
 (.cond (T 25)
 (.seq (.region [I 4 (.mv) [.lit (.bool false)]])
  (.ret))
 (.skip)))
 (.seq (.region (I 26 (.fieldAddr 2) [T 2] ::
   I 27 (.load1) [T 26] ::
   I 28 (.bin .geq) [T 27, N 0] ::
   I 29 (.mv) [T 28] ::
   IG 30 (.fieldAddr 2) [T 2] 29 true ::
   IG 31 (.load1) [T 30] 29 true ::
   IG 32 (.bin .leq) [T 31, N 256] 29 true ::
   I 33 (.pick) [T 29, T 32, .lit (.bool false)] ::
   I 34 (.mv) [T 33] ::
   IG 35 (.fieldAddr 3) [T 2] 34 true ::
   IG 36 (.load1) [T 35] 34 true ::
   IG 37 (.bin .geq) [T 36, N 0] 34 true ::
   I 38 (.pick) [T 34, T 37, .lit (.bool false)] ::
   I 39 (.mv) [T 38] ::
   IG 40 (.fieldAddr 3) [T 2] 39 true ::
   IG 41 (.load1) [T 40] 39 true ::
   IG 42 (.bin .leq) [T 41, N 1024] 39 true ::
   I 43 (.pick) [T 39, T 42, .lit (.bool false)] ::
   I 44 (.mv) [T 43] ::
   IG 45 (.mv) [T 1] 44 true ::
   IG 46 (.lens) [T 45] 44 true ::
   IG 47 (.bin .leq) [T 46, N 16] 44 true ::
   I 48 (.pick) [T 44, T 47, .lit (.bool false)] ::
   I 49 (.mv) [T 48] ::
   IG 50 (.mv) [T 1] 49 true ::
   IG 51 (.mv) [T 5] 49 true ::
   IG 52 (.callv) [F 199, T 50, T 51] 49 true ::
   IG 53 (.un .not) [T 52] 49 true ::
   I 54 (.pick) [T 49, T 53, .lit (.bool false)] ::
   I 4 (.mv) [T 54] ::
   []))
 (.ret))))⟩
theorem t97 : trFn Tryz.prog Tryz.f97 = some c_kern_may := by kernel_rfl
/-- pantry/phys.New -/
abbrev n_phys_New : Nat := 98
def c_phys_New : AFn := ⟨13, [.tmp 2],
 .seq (.region [I 2 (.mv) [.lit .nilptr]])
 (.seq (.seq (.region [I 3 (.mv) [T 0],
   I 4 (.bin .lss) [T 3, N 1],
   I 5 (.mv) [T 4],
   IG 6 (.mv) [T 0] 5 false,
   IG 7 (.bin .gtr) [T 6, N 256] 5 false,
   I 8 (.pick) [T 5, .lit (.bool true), T 7]])
 (.cond (T 8)
 (.seq (.region [I 2 (.mv) [.lit .nilptr]])
  (.ret))
 (.skip)))
 (.seq (.region [I 9 (.mv) [T 0],
   I 10 (.mkslice 308 4096 4096 (.bytes 4096 0)) [T 9, T 9],
   I 11 (.build (.agg [.nilsl]) [(0, 1)]) [T 10],
   I 12 (.box 205 1) [T 11],
   I 2 (.mv) [T 12]])
 (.ret)))⟩
theorem t98 : trFn Tryz.prog Tryz.f98 = some c_phys_New := by kernel_rfl
/-- pantry/frames.New -/
abbrev n_frames_New : Nat := 99
def c_frames_New : AFn := ⟨25, [.tmp 4],
 .seq (.region [I 4 (.mv) [.lit .nilptr]])
 (.seq (.seq (.region [I 5 (.mv) [T 0],
   I 6 (.bin .lss) [T 5, N 1],
   I 7 (.mv) [T 6],
   IG 8 (.mv) [T 0] 7 false,
   IG 9 (.bin .gtr) [T 8, N 256] 7 false,
   I 10 (.pick) [T 7, .lit (.bool true), T 9],
   I 11 (.mv) [T 10],
   IG 12 (.mv) [T 1] 11 false,
   IG 13 (.bin .lss) [T 12, N 0] 11 false,
   I 14 (.pick) [T 11, .lit (.bool true), T 13],
   I 15 (.mv) [T 14],
   IG 16 (.mv) [T 1] 15 false,
   IG 17 (.mv) [T 0] 15 false,
   IG 18 (.bin .gtr) [T 16, T 17] 15 false,
   I 19 (.pick) [T 15, .lit (.bool true), T 18]])
 (.cond (T 19)
 (.seq (.region [I 4 (.mv) [.lit .nilptr]])
  (.ret))
 (.skip)))
 (.seq (.region [I 20 (.mv) [T 0],
   I 21 (.mkslice 114 5 40 (.vals [(.int .i64 0), (.int .i64 0), (.int .i64 0), (.int .i64 0), (.int .i64 0)])) [T 20, T 20],
   I 22 (.mv) [T 1],
   I 23 (.build (.agg [.nilsl, (.int .i64 0)]) [(0, 1), (1, 1)]) [T 21, T 22],
   I 24 (.box 200 2) [T 23],
   I 4 (.mv) [T 24]])
 (.ret)))⟩
theorem t99 : trFn Tryz.prog Tryz.f99 = some c_frames_New := by kernel_rfl
/-- pantry/swap.New -/
abbrev n_swap_New : Nat := 100
def c_swap_New : AFn := ⟨13, [.tmp 2],
 .seq (.region [I 2 (.mv) [.lit .nilptr]])
 (.seq (.seq (.region [I 3 (.mv) [T 0],
   I 4 (.bin .lss) [T 3, N 0],
   I 5 (.mv) [T 4],
   IG 6 (.mv) [T 0] 5 false,
   IG 7 (.bin .gtr) [T 6, N 256] 5 false,
   I 8 (.pick) [T 5, .lit (.bool true), T 7]])
 (.cond (T 8)
 (.seq (.region [I 2 (.mv) [.lit .nilptr]])
  (.ret))
 (.skip)))
 (.seq (.region [I 9 (.mv) [T 0],
   I 10 (.mkmap) [],
   I 11 (.build (.agg [(.int .i64 0), (.bool false), .nilmap, (.int .i64 0), (.int .i64 0), (.int .i64 0), (.int .i64 0)]) [(0, 1), (1, 1), (2, 1)]) [T 9, .lit (.bool true), T 10],
   I 12 (.box 237 7) [T 11],
   I 2 (.mv) [T 12]])
 (.ret)))⟩
theorem t100 : trFn Tryz.prog Tryz.f100 = some c_swap_New := by kernel_rfl
/-- pantry/slots.New -/
abbrev n_slots_New : Nat := 101
def c_slots_New : AFn := ⟨21, [.tmp 2],
 .seq (.region [I 2 (.mv) [.lit .nilptr]])
 (.seq (.seq (.region [I 4 (.mv) [T 0],
   I 5 (.bin .lss) [T 4, N 0],
   I 6 (.mv) [T 5],
   IG 7 (.mv) [T 0] 6 false,
   IG 8 (.bin .gtr) [T 7, N 256] 6 false,
   I 9 (.pick) [T 6, .lit (.bool true), T 8]])
 (.cond (T 9)
 (.seq (.region [I 2 (.mv) [.lit .nilptr]])
  (.ret))
 (.skip)))
 (.seq (.region [I 10 (.mv) [T 0],
   I 11 (.bin .add) [T 10, N 64],
   I 12 (.bin .sub) [T 11, N 1],
   I 13 (.bin .quo) [T 12, N 64],
   I 3 (.mv) [T 13]])
 (.seq (.draw [[⟨0, I 14 (.mv) [T 0], [], false⟩,
   ⟨1, I 15 (.mv) [T 3], [], false⟩,
   ⟨3, I 17 (.mv) [T 3], [], false⟩,
   ⟨2, I 16 (.mkslice 318 1 8 (.vals [(.int .u64 0)])) [T 15, T 15], [], false⟩,
   ⟨4, I 18 (.mkslice 318 1 8 (.vals [(.int .u64 0)])) [T 17, T 17], [], false⟩,
   ⟨5, I 19 (.build (.agg [(.int .i64 0), .nilsl, .nilsl]) [(0, 1), (1, 1), (2, 1)]) [T 14, T 16, T 18], [], false⟩,
   ⟨6, I 20 (.box 241 3) [T 19], [], false⟩,
   ⟨7, I 2 (.mv) [T 20], [], false⟩],
[⟨0, I 14 (.mv) [T 0], [], false⟩,
   ⟨1, I 15 (.mv) [T 3], [], false⟩,
   ⟨3, I 17 (.mv) [T 3], [], false⟩,
   ⟨4, I 18 (.mkslice 318 1 8 (.vals [(.int .u64 0)])) [T 17, T 17], [], false⟩,
   ⟨2, I 16 (.mkslice 318 1 8 (.vals [(.int .u64 0)])) [T 15, T 15], [], false⟩,
   ⟨5, I 19 (.build (.agg [(.int .i64 0), .nilsl, .nilsl]) [(0, 1), (1, 1), (2, 1)]) [T 14, T 16, T 18], [], false⟩,
   ⟨6, I 20 (.box 241 3) [T 19], [], false⟩,
   ⟨7, I 2 (.mv) [T 20], [], false⟩]])
 (.ret))))⟩
theorem t101 : trFn Tryz.prog Tryz.f101 = some c_slots_New := by kernel_rfl
/-- pantry/file.New -/
abbrev n_file_New : Nat := 102
def c_file_New : AFn := ⟨4, [.tmp 0],
 .seq (.region [I 0 (.mv) [.lit .nilptr]])
 (.seq (.region [I 1 (.mkmap) [],
   I 2 (.build (.agg [(.bool false), .nilsl, .nilmap, (.int .i64 0)]) [(0, 1), (2, 1)]) [.lit (.bool true), T 1],
   I 3 (.box 270 4) [T 2],
   I 0 (.mv) [T 3]])
 (.ret))⟩
theorem t102 : trFn Tryz.prog Tryz.f102 = some c_file_New := by kernel_rfl
/-- pantry/anon.New -/
abbrev n_anon_New : Nat := 103
def c_anon_New : AFn := ⟨13, [.tmp 2],
 .seq (.region [I 2 (.mv) [.lit .nilptr]])
 (.seq (.seq (.region [I 3 (.mv) [T 0],
   I 4 (.bin .lss) [T 3, N 0],
   I 5 (.mv) [T 4],
   IG 6 (.mv) [T 0] 5 false,
   IG 7 (.bin .gtr) [T 6, N 4096] 5 false,
   I 8 (.pick) [T 5, .lit (.bool true), T 7]])
 (.cond (T 8)
 (.seq (.region [I 2 (.mv) [.lit .nilptr]])
  (.ret))
 (.skip)))
 (.seq (.region [I 9 (.mv) [T 0],
   I 10 (.mkmap) [],
   I 11 (.build (.agg [(.int .i64 0), (.bool false), .nilmap, .nilsl, (.int .i64 0)]) [(0, 1), (1, 1), (2, 1)]) [T 9, .lit (.bool true), T 10],
   I 12 (.box 188 5) [T 11],
   I 2 (.mv) [T 12]])
 (.ret)))⟩
theorem t103 : trFn Tryz.prog Tryz.f103 = some c_anon_New := by kernel_rfl
/-- pantry/amap.New -/
abbrev n_amap_New : Nat := 104
def c_amap_New : AFn := ⟨12, [.tmp 2],
 .seq (.region [I 2 (.mv) [.lit .nilptr]])
 (.seq (.seq (.region [I 3 (.mv) [T 0],
   I 4 (.bin .lss) [T 3, N 0],
   I 5 (.mv) [T 4],
   IG 6 (.mv) [T 0] 5 false,
   IG 7 (.bin .gtr) [T 6, N 4096] 5 false,
   I 8 (.pick) [T 5, .lit (.bool true), T 7]])
 (.cond (T 8)
 (.seq (.region [I 2 (.mv) [.lit .nilptr]])
  (.ret))
 (.skip)))
 (.seq (.region [I 9 (.mv) [T 0],
   I 10 (.build (.agg [(.int .i64 0), (.bool false), .nilsl, (.int .i64 0)]) [(0, 1), (1, 1)]) [T 9, .lit (.bool true)],
   I 11 (.box 209 4) [T 10],
   I 2 (.mv) [T 11]])
 (.ret)))⟩
theorem t104 : trFn Tryz.prog Tryz.f104 = some c_amap_New := by kernel_rfl
/-- pantry/object.New -/
abbrev n_object_New : Nat := 105
def c_object_New : AFn := ⟨13, [.tmp 2],
 .seq (.region [I 2 (.mv) [.lit .nilptr]])
 (.seq (.seq (.region [I 3 (.mv) [T 0],
   I 4 (.bin .lss) [T 3, N 0],
   I 5 (.mv) [T 4],
   IG 6 (.mv) [T 0] 5 false,
   IG 7 (.bin .gtr) [T 6, N 4096] 5 false,
   I 8 (.pick) [T 5, .lit (.bool true), T 7]])
 (.cond (T 8)
 (.seq (.region [I 2 (.mv) [.lit .nilptr]])
  (.ret))
 (.skip)))
 (.seq (.region [I 9 (.mv) [T 0],
   I 10 (.mkmap) [],
   I 11 (.build (.agg [(.int .i64 0), (.bool false), .nilmap]) [(0, 1), (1, 1), (2, 1)]) [T 9, .lit (.bool true), T 10],
   I 12 (.box 219 3) [T 11],
   I 2 (.mv) [T 12]])
 (.ret)))⟩
theorem t105 : trFn Tryz.prog Tryz.f105 = some c_object_New := by kernel_rfl
/-- pantry/tlb.New -/
abbrev n_tlb_New : Nat := 106
def c_tlb_New : AFn := ⟨13, [.tmp 2],
 .seq (.region [I 2 (.mv) [.lit .nilptr]])
 (.seq (.seq (.region [I 3 (.mv) [T 0],
   I 4 (.bin .lss) [T 3, N 0],
   I 5 (.mv) [T 4],
   IG 6 (.mv) [T 0] 5 false,
   IG 7 (.bin .gtr) [T 6, N 1024] 5 false,
   I 8 (.pick) [T 5, .lit (.bool true), T 7]])
 (.cond (T 8)
 (.seq (.region [I 2 (.mv) [.lit .nilptr]])
  (.ret))
 (.skip)))
 (.seq (.region [I 9 (.mv) [T 0],
   I 10 (.mkmap) [],
   I 11 (.build (.agg [(.int .i64 0), .nilsl, .nilmap]) [(0, 1), (2, 1)]) [T 9, T 10],
   I 12 (.box 283 3) [T 11],
   I 2 (.mv) [T 12]])
 (.ret)))⟩
theorem t106 : trFn Tryz.prog Tryz.f106 = some c_tlb_New := by kernel_rfl
/-- (*pantry/kern.Kernel).birth -/
abbrev n_kern_Kernel_birth : Nat := 108
/-- live: [0, 4] -/
def c_kern_Kernel_birth_L0 : ACode :=
 .seq (.seq (.region [I 8 (.mv) [T 0],
   I 9 (.nilCheck) [T 8],
   I 10 (.fieldAddr 9) [T 9],
   I 11 (.load1) [T 10],
   I 12 (.mv) [T 4],
   I 13 (.lookup (.scal .int) .nilptr false) [T 11, T 12],
   I 14 (.eqv true .ptr) [T 13, .lit .nilptr]])
 (.cond (T 14)
 (.skip)
 (.exit 0)))
 (.block 1 (.region [I 15 (.mv) [T 4],
   I 16 (.bin .add) [T 15, N 1],
   I 4 (.mv) [T 16]]))
def c_kern_Kernel_birth : AFn := ⟨45, [.tmp 2, .tmp 3],
 .seq (.region [I 2 (.mv) [.lit .nilptr],
   I 3 (.mv) [N 0]])
 (.seq (.region [I 4 (.mv) [N 1]])
 (.seq (.block 0 (.loop c_kern_Kernel_birth_L0))
 (.seq (.draw [[⟨0, I 18 (.mv) [T 0], [], false⟩,
   ⟨1, I 19 (.nilCheck) [T 18], [], false⟩,
   ⟨2, I 20 (.fieldAddr 0) [T 19], [], false⟩,
   ⟨3, I 21 (.load1) [T 20], [], false⟩,
   ⟨4, I 22 (.mv) [T 0], [], false⟩,
   ⟨5, I 23 (.nilCheck) [T 22], [], false⟩,
   ⟨6, I 24 (.fieldAddr 1) [T 23], [], false⟩,
   ⟨7, I 25 (.load1) [T 24], [], false⟩,
   ⟨8, I 26 (.mv) [T 4], [], false⟩,
   ⟨9, I 27 (.callv) [F 200, T 21, T 25, T 26], [], false⟩,
   ⟨10, I 17 (.mv) [T 27], [], false⟩,
   ⟨11, I 28 (.extract 0) [T 17], [], false⟩,
   ⟨12, I 29 (.extract 1) [T 17], [], false⟩,
   ⟨13, I 5 (.mv) [T 28], [], false⟩,
   ⟨14, I 6 (.mv) [T 29], [], false⟩]])
 (.seq (.seq (.region [I 30 (.mv) [T 6],
   I 31 (.bin .neq) [T 30, N 0]])
 (.cond (T 31)
 (.seq (.region [I 32 (.mv) [T 6],
    I 2 (.mv) [.lit .nilptr],
    I 3 (.mv) [T 32]])
  (.ret))
 (.skip)))
 (.seq (.region [I 33 (.mv) [T 4],
   I 34 (.callv) [F 201],
   I 35 (.mv) [T 5],
   I 36 (.build (.agg [(.int .i64 0), .nilptr, .nilptr, .nilsl]) [(0, 1), (1, 1), (2, 1)]) [T 33, T 34, T 35],
   I 37 (.box 100 4) [T 36],
   I 7 (.mv) [T 37]])
 (.seq (.region [I 38 (.mv) [T 0],
   I 39 (.nilCheck) [T 38],
   I 40 (.fieldAddr 9) [T 39],
   I 41 (.load1) [T 40],
   I 42 (.mv) [T 4],
   I 43 (.mv) [T 7],
   J (.mapput (.scal .int)) [T 41, T 42, T 43]])
 (.seq (.region [I 44 (.mv) [T 7],
   I 2 (.mv) [T 44],
   I 3 (.mv) [N 0]])
 (.ret))))))))⟩
theorem t108 : trFn Tryz.prog Tryz.f108 = some c_kern_Kernel_birth := by kernel_rfl
/-- slices.Collect[int] -/
abbrev n_slices_Collect_int : Nat := 109
def c_slices_Collect_int : AFn := ⟨5, [.tmp 2],
 .seq (.region [I 2 (.mv) [.lit .nilsl]])
 (.seq (.region [I 3 (.mv) [T 0],
   I 4 (.callv) [F 202, .lit .nilsl, T 3],
   I 2 (.mv) [T 4]])
 (.ret))⟩
theorem t109 : trFn Tryz.prog Tryz.f109 = some c_slices_Collect_int := by kernel_rfl
/-- slices.Sort[[]int,int] -/
abbrev n_slices_Sort_int_int : Nat := 110
def c_slices_Sort_int_int : AFn := ⟨11, [],
 .seq (.region [I 3 (.mv) [T 0],
   I 4 (.lens) [T 3],
   I 2 (.mv) [T 4]])
 (.region [I 5 (.mv) [T 0],
   I 6 (.mv) [T 2],
   I 7 (.mv) [T 2],
   I 8 (.conv .u64) [T 7],
   I 9 (.callv) [F 204, T 8],
   I 10 (.callv) [F 203, T 5, N 0, T 6, T 9]])⟩
theorem t110 : trFn Tryz.prog Tryz.f110 = some c_slices_Sort_int_int := by kernel_rfl
/-- slices.Concat[[]int,int] -/
abbrev n_slices_Concat_int_int : Nat := 112
/-- live: [0, 3, 9, 10, 11] -/
def c_slices_Concat_int_int_L0 : ACode :=
 .seq (.region [I 12 (.bin .lss) [T 11, T 10]])
 (.seq (.cond (T 12)
 (.skip)
 (.exit 0))
 (.seq (.block 1 (.seq (.region [I 13 (.indexs 1) [T 9, T 11],
   I 14 (.load1) [T 13],
   I 5 (.mv) [T 14]])
 (.seq (.region [I 15 (.mv) [T 3],
   I 16 (.mv) [T 5],
   I 17 (.lens) [T 16],
   I 18 (.bin .add) [T 15, T 17],
   I 3 (.mv) [T 18]])
 (.seq (.region [I 19 (.mv) [T 3],
   I 20 (.bin .lss) [T 19, N 0]])
 (.cond (T 20)
 (.region [I 21 (.bad) [.lit (.str ⟨#[108, 101, 110, 32, 111, 117, 116, 32, 111, 102, 32, 114, 97, 110, 103, 101]⟩)],
    J (.bad) [T 21]])
 (.skip))))))
 (.region [I 22 (.bin .add) [T 11, N 1],
   I 11 (.mv) [T 22]])))
/-- live: [6, 25, 26, 27] -/
def c_slices_Concat_int_int_L1 : ACode :=
 .seq (.region [I 28 (.bin .lss) [T 27, T 26]])
 (.seq (.cond (T 28)
 (.skip)
 (.exit 2))
 (.seq (.block 3 (.seq (.region [I 29 (.indexs 1) [T 25, T 27],
   I 30 (.load1) [T 29],
   I 8 (.mv) [T 30]])
 (.region [I 31 (.mv) [T 6],
   I 32 (.mv) [T 8],
   I 33 (.append 3 1 8 (.vals [(.int .i64 0)])) [T 31, T 32],
   I 6 (.mv) [T 33]])))
 (.region [I 34 (.bin .add) [T 27, N 1],
   I 27 (.mv) [T 34]])))
def c_slices_Concat_int_int : AFn := ⟨36, [.tmp 2],
 .seq (.region [I 2 (.mv) [.lit .nilsl]])
 (.seq (.region [I 3 (.mv) [N 0]])
 (.seq (.seq (.region [I 9 (.mv) [T 0],
   I 10 (.lens) [T 9],
   I 11 (.mv) [N 0]])
 (.block 0 (.loop c_slices_Concat_int_int_L0)))
 (.seq (.region [I 23 (.mv) [T 3],
   I 24 (.callv) [F 205, .lit .nilsl, T 23],
   I 6 (.mv) [T 24]])
 (.seq (.seq (.region [I 25 (.mv) [T 0],
   I 26 (.lens) [T 25],
   I 27 (.mv) [N 0]])
 (.block 2 (.loop c_slices_Concat_int_int_L1)))
 (.seq (.region [I 35 (.mv) [T 6],
   I 2 (.mv) [T 35]])
 (.ret))))))⟩
theorem t112 : trFn Tryz.prog Tryz.f112 = some c_slices_Concat_int_int := by kernel_rfl
/-- (*pantry/ring.Rows[int]).Remove -/
abbrev n_ring_Rows_int_Remove : Nat := 114
def c_ring_Rows_int_Remove : AFn := ⟨35, [.tmp 4],
 .seq (.region [I 3 (.box 3 1) [T 1],
   I 4 (.mv) [.lit (.bool false)]])
 (.seq (.region [I 8 (.mv) [T 0],
   I 9 (.load1) [T 3],
   I 10 (.callv) [F 115, T 8, T 9],
   I 7 (.mv) [T 10],
   I 11 (.extract 0) [T 7],
   I 12 (.extract 1) [T 7],
   I 5 (.mv) [T 11],
   I 6 (.mv) [T 12]])
 (.seq (.seq (.region [I 13 (.mv) [T 6],
   I 14 (.un .not) [T 13]])
 (.cond (T 14)
 (.seq (.region [I 4 (.mv) [.lit (.bool false)]])
  (.ret))
 (.skip)))
 (.seq (.draw [[⟨0, I 15 (.mv) [T 0], [], false⟩,
   ⟨1, I 16 (.nilCheck) [T 15], [], false⟩,
   ⟨2, I 17 (.fieldAddr 1) [T 16], [], false⟩,
   ⟨3, I 18 (.load1) [T 17], [], false⟩,
   ⟨4, I 19 (.load1) [T 3], [], false⟩,
   ⟨5, J (.delete (.scal .int)) [T 18, T 19], [], false⟩]])
 (.seq (.draw [[⟨0, I 20 (.mv) [T 0], [], false⟩,
   ⟨1, I 21 (.nilCheck) [T 20], [], false⟩,
   ⟨2, I 22 (.fieldAddr 0) [T 21], [], false⟩,
   ⟨3, I 23 (.load1) [T 22], [], false⟩,
   ⟨4, I 24 (.mv) [T 5], [], false⟩,
   ⟨5, I 25 (.mv) [T 0], [], false⟩,
   ⟨6, I 26 (.nilCheck) [T 25], [], false⟩,
   ⟨7, I 27 (.fieldAddr 0) [T 26], [], false⟩,
   ⟨8, I 28 (.load1) [T 27], [], false⟩,
   ⟨9, I 29 (.mv) [T 5], [], false⟩,
   ⟨10, I 30 (.indexs 1) [T 28, T 29], [], false⟩,
   ⟨11, I 31 (.load1) [T 30], [], false⟩,
   ⟨12, I 32 (.mkfunc 208 0) [T 3], [], false⟩,
   ⟨13, I 33 (.callv) [F 207, T 31, T 32], [(3, I 23 (.load1) [T 22])], false⟩,
   ⟨14, I 34 (.indexs 1) [T 23, T 24], [], false⟩,
   ⟨15, J (.store 1) [T 34, T 33], [], false⟩]])
 (.seq (.region [I 4 (.mv) [.lit (.bool true)]])
 (.ret))))))⟩
theorem t114 : trFn Tryz.prog Tryz.f114 = some c_ring_Rows_int_Remove := by kernel_rfl
/-- (*pantry/ring.Rows[int]).Where -/
abbrev n_ring_Rows_int_Where : Nat := 115
def c_ring_Rows_int_Where : AFn := ⟨22, [.tmp 4, .tmp 5],
 .seq (.region [I 4 (.mv) [N 0],
   I 5 (.mv) [.lit (.bool false)]])
 (.seq (.seq (.region [I 8 (.mv) [T 0],
   I 9 (.callv) [F 209, T 8],
   I 10 (.bin .eql) [T 9, N 0]])
 (.cond (T 10)
 (.seq (.region [I 4 (.mv) [N 0],
    I 5 (.mv) [.lit (.bool false)]])
  (.ret))
 (.skip)))
 (.seq (.region [I 12 (.mv) [T 0],
   I 13 (.nilCheck) [T 12],
   I 14 (.fieldAddr 1) [T 13],
   I 15 (.load1) [T 14],
   I 16 (.mv) [T 1],
   I 17 (.lookup (.scal .int) (.int .i64 0) true) [T 15, T 16],
   I 11 (.mv) [T 17],
   I 18 (.extract 0) [T 11],
   I 19 (.extract 1) [T 11],
   I 6 (.mv) [T 18],
   I 7 (.mv) [T 19]])
 (.seq (.region [I 20 (.mv) [T 6],
   I 21 (.mv) [T 7],
   I 4 (.mv) [T 20],
   I 5 (.mv) [T 21]])
 (.ret))))⟩
theorem t115 : trFn Tryz.prog Tryz.f115 = some c_ring_Rows_int_Where := by kernel_rfl
/-- (*pantry/ring.Rows[int]).Push -/
abbrev n_ring_Rows_int_Push : Nat := 116
def c_ring_Rows_int_Push : AFn := ⟨28, [.tmp 6],
 .seq (.region [I 6 (.mv) [.lit (.bool false)]])
 (.seq (.seq (.region [I 7 (.mv) [T 0],
   I 8 (.mv) [T 1],
   I 9 (.mv) [T 2],
   I 10 (.callv) [F 210, T 7, T 8, T 9],
   I 11 (.un .not) [T 10]])
 (.cond (T 11)
 (.seq (.region [I 6 (.mv) [.lit (.bool false)]])
  (.ret))
 (.skip)))
 (.seq (.draw [[⟨0, I 12 (.mv) [T 0], [], false⟩,
   ⟨1, I 13 (.nilCheck) [T 12], [], false⟩,
   ⟨2, I 14 (.fieldAddr 0) [T 13], [], false⟩,
   ⟨3, I 15 (.load1) [T 14], [], false⟩,
   ⟨4, I 16 (.mv) [T 1], [], false⟩,
   ⟨5, I 17 (.mv) [T 0], [], false⟩,
   ⟨6, I 18 (.nilCheck) [T 17], [], false⟩,
   ⟨7, I 19 (.fieldAddr 0) [T 18], [], false⟩,
   ⟨8, I 20 (.load1) [T 19], [], false⟩,
   ⟨9, I 21 (.mv) [T 1], [], false⟩,
   ⟨10, I 22 (.indexs 1) [T 20, T 21], [], false⟩,
   ⟨11, I 23 (.load1) [T 22], [], false⟩,
   ⟨12, I 24 (.mv) [T 2], [], false⟩,
   ⟨13, I 25 (.bslice 3 1 1 (.vals [(.int .i64 0)]) [0]) [T 24], [(3, I 15 (.load1) [T 14]), (8, I 20 (.load1) [T 19]), (11, I 23 (.load1) [T 22])], false⟩,
   ⟨14, I 26 (.append 3 1 8 (.vals [(.int .i64 0)])) [T 23, T 25], [(3, I 15 (.load1) [T 14])], false⟩,
   ⟨15, I 27 (.indexs 1) [T 15, T 16], [], false⟩,
   ⟨16, J (.store 1) [T 27, T 26], [], false⟩]])
 (.seq (.region [I 6 (.mv) [.lit (.bool true)]])
 (.ret))))⟩
theorem t116 : trFn Tryz.prog Tryz.f116 = some c_ring_Rows_int_Push := by kernel_rfl
/-- (*pantry/ring.Rows[int]).First -/
abbrev n_ring_Rows_int_First : Nat := 117
/-- live: [4, 5] -/
def c_ring_Rows_int_First_A0 : ACode :=
 .region [I 6 (.mv) [T 11]]
def c_ring_Rows_int_First_B0 : ACode :=
 .block 1 (.seq (.region [I 12 (.mv) [T 6],
   J (.store 1) [T 4, T 12],
   J (.store 1) [T 5, .lit (.bool true)]])
 (.ret))
def c_ring_Rows_int_First : AFn := ⟨14, [.cell 4 (.load1), .cell 5 (.load1)],
 .seq (.region [I 4 (.alloc 3 1 (.vals [(.int .i64 0)])) [],
   I 5 (.alloc 4 1 (.vals [(.bool false)])) []])
 (.seq (.seq (.region [I 8 (.mv) [T 0],
   I 9 (.mv) [T 1],
   I 10 (.callv) [F 120, T 8, T 9]])
 (.block 0 (.rfun (T 10) [11] c_ring_Rows_int_First_A0 c_ring_Rows_int_First_B0)))
 (.seq (.region [I 7 (.mv) [N 0]])
 (.seq (.region [I 13 (.mv) [T 7],
   J (.store 1) [T 4, T 13],
   J (.store 1) [T 5, .lit (.bool false)]])
 (.ret))))⟩
theorem t117 : trFn Tryz.prog Tryz.f117 = some c_ring_Rows_int_First := by kernel_rfl
/-- (*pantry/daemon.Daemon).old -/
abbrev n_daemon_Daemon_old : Nat := 118
def c_daemon_Daemon_old : AFn := ⟨33, [.tmp 4],
 .seq (.region [I 4 (.mv) [.lit (.bool false)]])
 (.seq (.seq (.region [I 5 (.mv) [T 0],
   I 6 (.nilCheck) [T 5],
   I 7 (.fieldAddr 0) [T 6],
   I 8 (.load1) [T 7],
   I 9 (.mv) [T 1],
   I 10 (.callv) [F 25, T 8, T 9],
   I 11 (.un .not) [T 10],
   I 12 (.mv) [T 11],
   IG 13 (.mv) [T 0] 12 true,
   IG 14 (.nilCheck) [T 13] 12 true,
   IG 15 (.fieldAddr 0) [T 14] 12 true,
   IG 16 (.load1) [T 15] 12 true,
   IG 17 (.mv) [T 1] 12 true,
   IG 18 (.callv) [F 26, T 16, T 17] 12 true,
   IG 19 (.bin .eql) [T 18, N 0] 12 true,
   I 20 (.pick) [T 12, T 19, .lit (.bool false)]])
 (.cond (T 20)
 (.seq (.region [I 21 (.mv) [T 0],
    I 22 (.nilCheck) [T 21],
    I 23 (.fieldAddr 1) [T 22],
    I 24 (.load1) [T 23],
    I 25 (.mv) [T 1],
    I 26 (.callv) [F 114, T 24, T 25]])
  (.seq (.region [I 4 (.mv) [.lit (.bool true)]])
  (.ret)))
 (.skip)))
 (.seq (.region [I 27 (.mv) [T 0],
   I 28 (.nilCheck) [T 27],
   I 29 (.fieldAddr 1) [T 28],
   I 30 (.load1) [T 29],
   I 31 (.mv) [T 1],
   I 32 (.callv) [F 116, T 30, N 0, T 31]])
 (.seq (.region [I 4 (.mv) [.lit (.bool false)]])
 (.ret))))⟩
theorem t118 : trFn Tryz.prog Tryz.f118 = some c_daemon_Daemon_old := by kernel_rfl
/-- (*pantry/daemon.Daemon).young -/
abbrev n_daemon_Daemon_young : Nat := 119
def c_daemon_Daemon_young : AFn := ⟨17, [.tmp 4],
 .seq (.region [I 4 (.mv) [.lit (.bool false)]])
 (.seq (.region [I 5 (.mv) [T 0],
   I 6 (.nilCheck) [T 5],
   I 7 (.fieldAddr 0) [T 6],
   I 8 (.load1) [T 7],
   I 9 (.mv) [T 1],
   I 10 (.callv) [F 25, T 8, T 9]])
 (.seq (.region [I 11 (.mv) [T 0],
   I 12 (.nilCheck) [T 11],
   I 13 (.fieldAddr 1) [T 12],
   I 14 (.load1) [T 13],
   I 15 (.mv) [T 1],
   I 16 (.callv) [F 116, T 14, N 1, T 15]])
 (.seq (.region [I 4 (.mv) [.lit (.bool false)]])
 (.ret))))⟩
theorem t119 : trFn Tryz.prog Tryz.f119 = some c_daemon_Daemon_young := by kernel_rfl
/-- (*pantry/ring.Rows[int]).All -/
abbrev n_ring_Rows_int_All : Nat := 120
def c_ring_Rows_int_All : AFn := ⟨6, [.tmp 4],
 .seq (.region [I 2 (.box 40 1) [T 0],
   I 3 (.box 3 1) [T 1],
   I 4 (.mv) [.lit .nilfunc]])
 (.seq (.region [I 5 (.mkfunc 211 0) [T 2, T 3],
   I 4 (.mv) [T 5]])
 (.ret))⟩
theorem t120 : trFn Tryz.prog Tryz.f120 = some c_ring_Rows_int_All := by kernel_rfl
/-- (*pantry/vmap.Map).made -/
abbrev n_vmap_Map_made : Nat := 121
def c_vmap_Map_made : AFn := ⟨11, [.tmp 2],
 .seq (.region [I 2 (.mv) [.lit (.bool false)]])
 (.seq (.region [I 3 (.mv) [T 0],
   I 4 (.eqv true .ptr) [T 3, .lit .nilptr],
   I 5 (.mv) [T 4],
   IG 6 (.mv) [T 0] 5 true,
   IG 7 (.nilCheck) [T 6] 5 true,
   IG 8 (.fieldAddr 1) [T 7] 5 true,
   IG 9 (.load1) [T 8] 5 true,
   I 10 (.pick) [T 5, T 9, .lit (.bool false)],
   I 2 (.mv) [T 10]])
 (.ret))⟩
theorem t121 : trFn Tryz.prog Tryz.f121 = some c_vmap_Map_made := by kernel_rfl
/-- pantry/entry.Find -/
abbrev n_entry_Find : Nat := 122
def c_entry_Find : AFn := ⟨28, [.tmp 4, .tmp 5],
 .seq (.region [I 4 (.mv) [N 0],
   I 5 (.mv) [.lit (.bool false)]])
 (.seq (.region [I 9 (.mv) [T 0],
   I 10 (.mv) [T 1],
   I 11 (.callv) [F 214, T 9, T 10, F 215],
   I 8 (.mv) [T 11],
   I 12 (.extract 0) [T 8],
   I 13 (.extract 1) [T 8],
   I 6 (.mv) [T 12],
   I 7 (.mv) [T 13]])
 (.seq (.draw [[⟨0, I 14 (.mv) [T 6], [], false⟩,
   ⟨1, I 15 (.mv) [T 6], [], false⟩,
   ⟨2, I 16 (.mv) [T 0], [], false⟩,
   ⟨3, I 17 (.lens) [T 16], [], false⟩,
   ⟨4, I 18 (.bin .lss) [T 15, T 17], [], false⟩,
   ⟨5, I 19 (.mv) [T 18], [], false⟩,
   ⟨6, IG 20 (.mv) [T 0] 19 true, [], false⟩,
   ⟨7, IG 21 (.mv) [T 6] 19 true, [], false⟩,
   ⟨8, IG 22 (.indexs 10) [T 20, T 21] 19 true, [], false⟩,
   ⟨9, IG 23 (.fieldAddr 0) [T 22] 19 true, [], false⟩,
   ⟨10, IG 24 (.load1) [T 23] 19 true, [], false⟩,
   ⟨11, IG 25 (.mv) [T 1] 19 true, [], false⟩,
   ⟨12, IG 26 (.bin .leq) [T 24, T 25] 19 true, [], false⟩,
   ⟨13, I 27 (.pick) [T 19, T 26, .lit (.bool false)], [], false⟩,
   ⟨14, I 4 (.mv) [T 14], [], false⟩,
   ⟨15, I 5 (.mv) [T 27], [], false⟩]])
 (.ret)))⟩
theorem t122 : trFn Tryz.prog Tryz.f122 = some c_entry_Find := by kernel_rfl
/-- (*pantry/anon.Pool).made -/
abbrev n_anon_Pool_made : Nat := 123
def c_anon_Pool_made : AFn := ⟨11, [.tmp 2],
 .seq (.region [I 2 (.mv) [.lit (.bool false)]])
 (.seq (.region [I 3 (.mv) [T 0],
   I 4 (.eqv true .ptr) [T 3, .lit .nilptr],
   I 5 (.mv) [T 4],
   IG 6 (.mv) [T 0] 5 true,
   IG 7 (.nilCheck) [T 6] 5 true,
   IG 8 (.fieldAddr 1) [T 7] 5 true,
   IG 9 (.load1) [T 8] 5 true,
   I 10 (.pick) [T 5, T 9, .lit (.bool false)],
   I 2 (.mv) [T 10]])
 (.ret))⟩
theorem t123 : trFn Tryz.prog Tryz.f123 = some c_anon_Pool_made := by kernel_rfl
/-- (*pantry/kern.proc).at -/
abbrev n_kern_proc_at : Nat := 124
def c_kern_proc_at : AFn := ⟨20, [.tmp 4],
 .seq (.region [I 3 (.box 3 1) [T 1],
   I 4 (.mv) [.lit .nilptr]])
 (.seq (.region [I 6 (.mv) [T 0],
   I 7 (.nilCheck) [T 6],
   I 8 (.fieldAddr 3) [T 7],
   I 9 (.load1) [T 8],
   I 10 (.mkfunc 217 0) [T 3],
   I 11 (.callv) [F 216, T 9, T 10],
   I 5 (.mv) [T 11]])
 (.seq (.seq (.region [I 12 (.mv) [T 5],
   I 13 (.bin .lss) [T 12, N 0]])
 (.cond (T 13)
 (.seq (.region [I 4 (.mv) [.lit .nilptr]])
  (.ret))
 (.skip)))
 (.seq (.region [I 14 (.mv) [T 0],
   I 15 (.nilCheck) [T 14],
   I 16 (.fieldAddr 3) [T 15],
   I 17 (.load1) [T 16],
   I 18 (.mv) [T 5],
   I 19 (.indexs 6) [T 17, T 18],
   I 4 (.mv) [T 19]])
 (.ret))))⟩
theorem t124 : trFn Tryz.prog Tryz.f124 = some c_kern_proc_at := by kernel_rfl
/-- (*pantry/file.Store).Size -/
abbrev n_file_Store_Size : Nat := 126
def c_file_Store_Size : AFn := ⟨30, [.tmp 4, .tmp 5],
 .seq (.region [I 4 (.mv) [N 0],
   I 5 (.mv) [.lit (.bool false)]])
 (.seq (.seq (.region [I 6 (.mv) [T 0],
   I 7 (.callv) [F 194, T 6],
   I 8 (.un .not) [T 7],
   I 9 (.mv) [T 8],
   IG 10 (.mv) [T 1] 9 false,
   IG 11 (.bin .lss) [T 10, N 1] 9 false,
   I 12 (.pick) [T 9, .lit (.bool true), T 11],
   I 13 (.mv) [T 12],
   IG 14 (.mv) [T 1] 13 false,
   IG 15 (.mv) [T 0] 13 false,
   IG 16 (.nilCheck) [T 15] 13 false,
   IG 17 (.fieldAddr 1) [T 16] 13 false,
   IG 18 (.load1) [T 17] 13 false,
   IG 19 (.lens) [T 18] 13 false,
   IG 20 (.bin .gtr) [T 14, T 19] 13 false,
   I 21 (.pick) [T 13, .lit (.bool true), T 20]])
 (.cond (T 21)
 (.seq (.region [I 4 (.mv) [N 0],
    I 5 (.mv) [.lit (.bool false)]])
  (.ret))
 (.skip)))
 (.seq (.region [I 22 (.mv) [T 0],
   I 23 (.nilCheck) [T 22],
   I 24 (.fieldAddr 1) [T 23],
   I 25 (.load1) [T 24],
   I 26 (.mv) [T 1],
   I 27 (.bin .sub) [T 26, N 1],
   I 28 (.indexs 1) [T 25, T 27],
   I 29 (.load1) [T 28],
   I 4 (.mv) [T 29],
   I 5 (.mv) [.lit (.bool true)]])
 (.ret)))⟩
theorem t126 : trFn Tryz.prog Tryz.f126 = some c_file_Store_Size := by kernel_rfl
/-- (*pantry/kern.Kernel).reach -/
abbrev n_kern_Kernel_reach : Nat := 129
def c_kern_Kernel_reach : AFn := ⟨93, [.tmp 8, .tmp 9],
 .seq (.region [I 8 (.mv) [N 0],
   I 9 (.mv) [.lit (.bool false)]])
 (.seq (.region [I 18 (.mv) [T 1],
   I 19 (.nilCheck) [T 18],
   I 20 (.fieldAddr 0) [T 19],
   I 21 (.load1) [T 20],
   I 22 (.mv) [T 2],
   I 23 (.build (.agg [(.int .i64 0), (.int .i64 0)]) [(0, 1), (1, 1)]) [T 21, T 22],
   I 10 (.alloc 150 2 (.vals [(.int .i64 0), (.int .i64 0)])) [],
   J (.store 2) [T 10, T 23]])
 (.seq (.seq (.draw [[⟨0, I 25 (.mv) [T 0], [], false⟩,
   ⟨1, I 26 (.nilCheck) [T 25], [], false⟩,
   ⟨2, I 27 (.fieldAddr 8) [T 26], [], false⟩,
   ⟨3, I 28 (.load1) [T 27], [], false⟩,
   ⟨4, I 29 (.loadn 2) [T 10], [], false⟩,
   ⟨5, I 30 (.callv) [F 219, T 28, T 29], [], false⟩,
   ⟨6, I 24 (.mv) [T 30], [], false⟩,
   ⟨7, I 31 (.extract 0) [T 24], [], false⟩,
   ⟨8, I 32 (.extract 1) [T 24], [], false⟩,
   ⟨9, I 11 (.alloc 139 2 (.vals [(.int .i64 0), (.int .i64 0)])) [], [(3, I 28 (.load1) [T 27]), (4, I 29 (.loadn 2) [T 10])], false⟩,
   ⟨10, J (.store 2) [T 11, T 31], [], false⟩,
   ⟨11, I 12 (.mv) [T 32], [], false⟩],
[⟨0, I 25 (.mv) [T 0], [], false⟩,
   ⟨1, I 26 (.nilCheck) [T 25], [], false⟩,
   ⟨2, I 27 (.fieldAddr 8) [T 26], [], false⟩,
   ⟨3, I 28 (.load1) [T 27], [], false⟩,
   ⟨4, I 29 (.loadn 2) [T 10], [], false⟩,
   ⟨9, I 11 (.alloc 139 2 (.vals [(.int .i64 0), (.int .i64 0)])) [], [(3, I 28 (.load1) [T 27]), (4, I 29 (.loadn 2) [T 10])], false⟩,
   ⟨5, I 30 (.callv) [F 219, T 28, T 29], [], false⟩,
   ⟨6, I 24 (.mv) [T 30], [], false⟩,
   ⟨7, I 31 (.extract 0) [T 24], [], false⟩,
   ⟨8, I 32 (.extract 1) [T 24], [], false⟩,
   ⟨10, J (.store 2) [T 11, T 31], [], false⟩,
   ⟨11, I 12 (.mv) [T 32], [], false⟩]])
 (.seq (.region [I 33 (.mv) [T 12],
   I 34 (.mv) [T 33],
   IG 35 (.loadn 2) [T 11] 34 true,
   IG 36 (.mv) [T 3] 34 true,
   IG 37 (.callv) [F 220, T 35, T 36, .lit (.bool true)] 34 true,
   I 38 (.pick) [T 34, T 37, .lit (.bool false)],
   I 39 (.mv) [T 38],
   IG 40 (.mv) [T 3] 39 true,
   IG 41 (.bin .neq) [T 40, N 2] 39 true,
   IG 42 (.mv) [T 41] 39 true,
   IG 43 (.fieldAddr 0) [T 11] 42 false,
   IG 44 (.load1) [T 43] 42 false,
   IG 45 (.bin .and) [T 44, N 128] 42 false,
   IG 46 (.bin .gtr) [T 45, N 0] 42 false,
   IG 47 (.pick) [T 42, .lit (.bool true), T 46] 39 true,
   I 48 (.pick) [T 39, T 47, .lit (.bool false)]])
 (.cond (T 48)
 (.seq (.region [I 49 (.fieldAddr 1) [T 11],
    I 50 (.load1) [T 49],
    I 8 (.mv) [T 50],
    I 9 (.mv) [.lit (.bool true)]])
  (.ret))
 (.skip))))
 (.seq (.draw [[⟨0, I 52 (.mv) [T 0], [], false⟩,
   ⟨1, I 53 (.nilCheck) [T 52], [], false⟩,
   ⟨2, I 54 (.fieldAddr 0) [T 53], [], false⟩,
   ⟨3, I 55 (.load1) [T 54], [], false⟩,
   ⟨4, I 56 (.mv) [T 1], [], false⟩,
   ⟨5, I 57 (.nilCheck) [T 56], [], false⟩,
   ⟨6, I 58 (.fieldAddr 2) [T 57], [], false⟩,
   ⟨7, I 59 (.load1) [T 58], [], false⟩,
   ⟨9, I 61 (.mv) [T 2], [], false⟩,
   ⟨10, I 62 (.bin .shl) [T 61, .lit (.int .u64 12)], [], false⟩,
   ⟨11, I 63 (.mv) [T 3], [], false⟩,
   ⟨8, I 60 (.callv) [F 222, T 59], [(3, I 55 (.load1) [T 54])], false⟩,
   ⟨12, I 64 (.callv) [F 221, T 55, T 60, T 62, T 63, .lit (.bool true)], [], false⟩,
   ⟨13, I 51 (.mv) [T 64], [], false⟩,
   ⟨14, I 65 (.extract 0) [T 51], [], false⟩,
   ⟨15, I 66 (.extract 1) [T 51], [], false⟩,
   ⟨16, I 67 (.extract 2) [T 51], [], false⟩,
   ⟨17, I 13 (.mv) [T 65], [], false⟩,
   ⟨18, I 14 (.mv) [T 66], [], false⟩,
   ⟨19, I 15 (.mv) [T 67], [], false⟩]])
 (.seq (.seq (.region [I 68 (.mv) [T 13],
   I 69 (.bin .neq) [T 68, N 0]])
 (.cond (T 69)
 (.seq (.region [I 8 (.mv) [N (-1)],
    I 9 (.mv) [.lit (.bool false)]])
  (.ret))
 (.skip)))
 (.seq (.seq (.draw [[⟨0, I 71 (.mv) [T 0], [], false⟩,
   ⟨1, I 72 (.nilCheck) [T 71], [], false⟩,
   ⟨2, I 73 (.fieldAddr 0) [T 72], [], false⟩,
   ⟨3, I 74 (.load1) [T 73], [], false⟩,
   ⟨4, I 75 (.mv) [T 1], [], false⟩,
   ⟨5, I 76 (.nilCheck) [T 75], [], false⟩,
   ⟨6, I 77 (.fieldAddr 2) [T 76], [], false⟩,
   ⟨7, I 78 (.load1) [T 77], [], false⟩,
   ⟨9, I 80 (.mv) [T 2], [], false⟩,
   ⟨8, I 79 (.callv) [F 222, T 78], [(3, I 74 (.load1) [T 73])], false⟩,
   ⟨10, I 81 (.callv) [F 223, T 74, T 79, T 80], [], false⟩,
   ⟨11, I 70 (.mv) [T 81], [], false⟩,
   ⟨12, I 82 (.extract 0) [T 70], [], false⟩,
   ⟨13, I 83 (.extract 1) [T 70], [], false⟩,
   ⟨14, I 16 (.alloc 139 2 (.vals [(.int .i64 0), (.int .i64 0)])) [], [(3, I 74 (.load1) [T 73]), (7, I 78 (.load1) [T 77])], false⟩,
   ⟨15, J (.store 2) [T 16, T 82], [], false⟩,
   ⟨16, I 17 (.mv) [T 83], [], false⟩],
[⟨0, I 71 (.mv) [T 0], [], false⟩,
   ⟨1, I 72 (.nilCheck) [T 71], [], false⟩,
   ⟨2, I 73 (.fieldAddr 0) [T 72], [], false⟩,
   ⟨3, I 74 (.load1) [T 73], [], false⟩,
   ⟨4, I 75 (.mv) [T 1], [], false⟩,
   ⟨5, I 76 (.nilCheck) [T 75], [], false⟩,
   ⟨6, I 77 (.fieldAddr 2) [T 76], [], false⟩,
   ⟨7, I 78 (.load1) [T 77], [], false⟩,
   ⟨9, I 80 (.mv) [T 2], [], false⟩,
   ⟨8, I 79 (.callv) [F 222, T 78], [(3, I 74 (.load1) [T 73])], false⟩,
   ⟨14, I 16 (.alloc 139 2 (.vals [(.int .i64 0), (.int .i64 0)])) [], [(3, I 74 (.load1) [T 73]), (7, I 78 (.load1) [T 77])], false⟩,
   ⟨10, I 81 (.callv) [F 223, T 74, T 79, T 80], [], false⟩,
   ⟨11, I 70 (.mv) [T 81], [], false⟩,
   ⟨12, I 82 (.extract 0) [T 70], [], false⟩,
   ⟨13, I 83 (.extract 1) [T 70], [], false⟩,
   ⟨15, J (.store 2) [T 16, T 82], [], false⟩,
   ⟨16, I 17 (.mv) [T 83], [], false⟩],
[⟨0, I 71 (.mv) [T 0], [], false⟩,
   ⟨1, I 72 (.nilCheck) [T 71], [], false⟩,
   ⟨2, I 73 (.fieldAddr 0) [T 72], [], false⟩,
   ⟨3, I 74 (.load1) [T 73], [], false⟩,
   ⟨4, I 75 (.mv) [T 1], [], false⟩,
   ⟨5, I 76 (.nilCheck) [T 75], [], false⟩,
   ⟨6, I 77 (.fieldAddr 2) [T 76], [], false⟩,
   ⟨7, I 78 (.load1) [T 77], [], false⟩,
   ⟨9, I 80 (.mv) [T 2], [], false⟩,
   ⟨14, I 16 (.alloc 139 2 (.vals [(.int .i64 0), (.int .i64 0)])) [], [(3, I 74 (.load1) [T 73]), (7, I 78 (.load1) [T 77])], false⟩,
   ⟨8, I 79 (.callv) [F 222, T 78], [(3, I 74 (.load1) [T 73])], false⟩,
   ⟨10, I 81 (.callv) [F 223, T 74, T 79, T 80], [], false⟩,
   ⟨11, I 70 (.mv) [T 81], [], false⟩,
   ⟨12, I 82 (.extract 0) [T 70], [], false⟩,
   ⟨13, I 83 (.extract 1) [T 70], [], false⟩,
   ⟨15, J (.store 2) [T 16, T 82], [], false⟩,
   ⟨16, I 17 (.mv) [T 83], [], false⟩]])
 (.seq (.region [I 84 (.mv) [T 17]])
 (.cond (T 84)
 (.draw [[⟨0, I 85 (.mv) [T 0], [], false⟩,
    ⟨1, I 86 (.nilCheck) [T 85], [], false⟩,
    ⟨2, I 87 (.fieldAddr 8) [T 86], [], false⟩,
    ⟨3, I 88 (.load1) [T 87], [], false⟩,
    ⟨4, I 89 (.loadn 2) [T 10], [], false⟩,
    ⟨5, I 90 (.loadn 2) [T 16], [], false⟩,
    ⟨6, I 91 (.callv) [F 224, T 88, T 89, T 90], [], false⟩]])
 (.skip))))
 (.seq (.region [I 92 (.mv) [T 14],
   I 8 (.mv) [T 92],
   I 9 (.mv) [.lit (.bool true)]])
 (.ret)))))))⟩
theorem t129 : trFn Tryz.prog Tryz.f129 = some c_kern_Kernel_reach := by kernel_rfl
/-- (*pantry/kern.Kernel).fault -/
abbrev n_kern_Kernel_fault : Nat := 130
def c_kern_Kernel_fault : AFn := ⟨98, [.tmp 8],
 .seq (.region [I 8 (.mv) [N 0]])
 (.seq (.region [I 15 (.mv) [T 1],
   I 16 (.nilCheck) [T 15],
   I 17 (.fieldAddr 1) [T 16],
   I 18 (.load1) [T 17],
   I 19 (.mv) [T 2],
   I 20 (.callv) [F 45, T 18, T 19],
   I 14 (.mv) [T 20],
   I 21 (.extract 0) [T 14],
   I 22 (.extract 1) [T 14],
   I 9 (.alloc 94 10 (.vals [(.int .i64 0), (.int .i64 0), (.int .i64 0), (.int .i64 0), (.bool false), (.int .i64 0), (.int .i64 0), (.int .i64 0), (.int .i64 0), (.bool false)])) [],
   J (.store 10) [T 9, T 21],
   I 10 (.mv) [T 22]])
 (.seq (.region [I 11 (.mv) [N 0]])
 (.seq (.region [I 12 (.mv) [N 0]])
 (.seq (.block 0 (.seq (.region [I 33 (.fieldAddr 4) [T 9],
   I 34 (.load1) [T 33],
   I 35 (.mv) [T 34],
   IG 36 (.mv) [T 3] 35 true,
   I 37 (.pick) [T 35, T 36, .lit (.bool false)],
   I 32 (.mv) [T 37]])
 (.cond (T 32)
 (.region [I 39 (.mv) [T 0],
    I 40 (.fieldAddr 2) [T 9],
    I 41 (.load1) [T 40],
    I 42 (.fieldAddr 3) [T 9],
    I 43 (.load1) [T 42],
    I 44 (.mv) [T 2],
    I 45 (.bin .add) [T 43, T 44],
    I 46 (.fieldAddr 0) [T 9],
    I 47 (.load1) [T 46],
    I 48 (.bin .sub) [T 45, T 47],
    I 49 (.callv) [F 158, T 39, T 41, T 48],
    I 38 (.mv) [T 49],
    I 50 (.extract 0) [T 38],
    I 51 (.extract 1) [T 38],
    I 11 (.mv) [T 50],
    I 12 (.mv) [T 51]])
 (.seq (.region [I 53 (.fieldAddr 4) [T 9],
    I 54 (.load1) [T 53],
    I 52 (.mv) [T 54]])
  (.cond (T 52)
  (.region [I 56 (.mv) [T 0],
     I 57 (.fieldAddr 2) [T 9],
     I 58 (.load1) [T 57],
     I 59 (.fieldAddr 3) [T 9],
     I 60 (.load1) [T 59],
     I 61 (.mv) [T 2],
     I 62 (.bin .add) [T 60, T 61],
     I 63 (.fieldAddr 0) [T 9],
     I 64 (.load1) [T 63],
     I 65 (.bin .sub) [T 62, T 64],
     I 66 (.callv) [F 157, T 56, T 58, T 65],
     I 55 (.mv) [T 66],
     I 67 (.extract 0) [T 55],
     I 68 (.extract 1) [T 55],
     I 69 (.extract 2) [T 55],
     I 11 (.mv) [T 68],
     I 12 (.mv) [T 69]])
  (.region [I 24 (.mv) [T 0],
     I 25 (.mv) [T 1],
     I 26 (.loadn 10) [T 9],
     I 27 (.mv) [T 2],
     I 28 (.mv) [T 3],
     I 29 (.callv) [F 225, T 24, T 25, T 26, T 27, T 28],
     I 23 (.mv) [T 29],
     I 30 (.extract 0) [T 23],
     I 31 (.extract 1) [T 23],
     I 11 (.mv) [T 30],
     I 12 (.mv) [T 31]]))))))
 (.seq (.seq (.region [I 70 (.mv) [T 12],
   I 71 (.bin .neq) [T 70, N 0]])
 (.cond (T 71)
 (.seq (.region [I 72 (.mv) [T 12],
    I 8 (.mv) [T 72]])
  (.ret))
 (.skip)))
 (.seq (.region [I 73 (.fieldAddr 5) [T 9],
   I 74 (.load1) [T 73],
   I 13 (.mv) [T 74]])
 (.seq (.seq (.region [I 75 (.mv) [T 3],
   I 76 (.un .not) [T 75]])
 (.cond (T 76)
 (.region [I 77 (.mv) [T 13],
    I 78 (.bin .andNot) [T 77, N 2],
    I 13 (.mv) [T 78]])
 (.skip)))
 (.seq (.draw [[⟨0, I 79 (.mv) [T 0], [], false⟩,
   ⟨1, I 80 (.nilCheck) [T 79], [], false⟩,
   ⟨2, I 81 (.fieldAddr 8) [T 80], [], false⟩,
   ⟨3, I 82 (.load1) [T 81], [], false⟩,
   ⟨4, I 83 (.mv) [T 1], [], false⟩,
   ⟨5, I 84 (.nilCheck) [T 83], [], false⟩,
   ⟨6, I 85 (.fieldAddr 0) [T 84], [], false⟩,
   ⟨7, I 86 (.load1) [T 85], [], false⟩,
   ⟨8, I 87 (.mv) [T 2], [], false⟩,
   ⟨9, I 88 (.build (.agg [(.int .i64 0), (.int .i64 0)]) [(0, 1), (1, 1)]) [T 86, T 87], [], false⟩,
   ⟨10, I 89 (.callv) [F 81, T 82, T 88], [], false⟩]])
 (.seq (.region [I 90 (.mv) [T 1],
   I 91 (.nilCheck) [T 90],
   I 92 (.fieldAddr 2) [T 91],
   I 93 (.load1) [T 92],
   I 94 (.mv) [T 2],
   I 95 (.mv) [T 11],
   I 96 (.mv) [T 13],
   I 97 (.callv) [F 226, T 93, T 94, T 95, T 96],
   I 8 (.mv) [T 97]])
 (.ret))))))))))⟩
theorem t130 : trFn Tryz.prog Tryz.f130 = some c_kern_Kernel_fault := by kernel_rfl
/-- (*pantry/frames.Pool).with -/
abbrev n_frames_Pool_with : Nat := 131
def c_frames_Pool_with : AFn := ⟨41, [.tmp 6],
 .seq (.region [I 6 (.mv) [N 0]])
 (.seq (.block 0 (.seq (.region [I 8 (.mv) [T 0],
   I 9 (.callv) [F 135, T 8],
   I 10 (.un .not) [T 9],
   I 7 (.mv) [T 10]])
 (.cond (T 7)
 (.seq (.region [I 6 (.mv) [N 1]])
  (.ret))
 (.seq (.region [I 12 (.mv) [T 1],
    I 13 (.bin .lss) [T 12, N 0],
    I 14 (.mv) [T 13],
    IG 15 (.mv) [T 1] 14 false,
    IG 16 (.mv) [T 0] 14 false,
    IG 17 (.nilCheck) [T 16] 14 false,
    IG 18 (.fieldAddr 0) [T 17] 14 false,
    IG 19 (.load1) [T 18] 14 false,
    IG 20 (.lens) [T 19] 14 false,
    IG 21 (.bin .geq) [T 15, T 20] 14 false,
    I 22 (.pick) [T 14, .lit (.bool true), T 21],
    I 11 (.mv) [T 22]])
  (.cond (T 11)
  (.seq (.region [I 6 (.mv) [N 7]])
   (.ret))
  (.seq (.region [I 24 (.mv) [T 0],
     I 25 (.nilCheck) [T 24],
     I 26 (.fieldAddr 0) [T 25],
     I 27 (.load1) [T 26],
     I 28 (.mv) [T 1],
     I 29 (.indexs 5) [T 27, T 28],
     I 30 (.fieldAddr 0) [T 29],
     I 31 (.load1) [T 30],
     I 32 (.bin .eql) [T 31, N 0],
     I 23 (.mv) [T 32]])
   (.cond (T 23)
   (.seq (.region [I 6 (.mv) [N 2]])
    (.ret))
   (.skip))))))))
 (.seq (.region [I 33 (.mv) [T 2],
   I 34 (.mv) [T 0],
   I 35 (.nilCheck) [T 34],
   I 36 (.fieldAddr 0) [T 35],
   I 37 (.load1) [T 36],
   I 38 (.mv) [T 1],
   I 39 (.indexs 5) [T 37, T 38],
   I 40 (.callv) [T 33, T 39],
   I 6 (.mv) [T 40]])
 (.ret)))⟩
theorem t131 : trFn Tryz.prog Tryz.f131 = some c_frames_Pool_with := by kernel_rfl
/-- (*pantry/kern.Kernel).out -/
abbrev n_kern_Kernel_out : Nat := 134
def c_kern_Kernel_out : AFn := ⟨23, [],
 .seq (.region [I 6 (.mv) [T 1],
   I 7 (.nilCheck) [T 6],
   I 8 (.fieldAddr 2) [T 7],
   I 9 (.load1) [T 8],
   I 10 (.mv) [T 2],
   I 11 (.callv) [F 227, T 9, T 10]])
 (.draw [[⟨0, I 12 (.mv) [T 0], [], false⟩,
   ⟨1, I 13 (.nilCheck) [T 12], [], false⟩,
   ⟨2, I 14 (.fieldAddr 8) [T 13], [], false⟩,
   ⟨3, I 15 (.load1) [T 14], [], false⟩,
   ⟨4, I 16 (.mv) [T 1], [], false⟩,
   ⟨5, I 17 (.nilCheck) [T 16], [], false⟩,
   ⟨6, I 18 (.fieldAddr 0) [T 17], [], false⟩,
   ⟨7, I 19 (.load1) [T 18], [], false⟩,
   ⟨8, I 20 (.mv) [T 2], [], false⟩,
   ⟨9, I 21 (.build (.agg [(.int .i64 0), (.int .i64 0)]) [(0, 1), (1, 1)]) [T 19, T 20], [], false⟩,
   ⟨10, I 22 (.callv) [F 81, T 15, T 21], [], false⟩]])⟩
theorem t134 : trFn Tryz.prog Tryz.f134 = some c_kern_Kernel_out := by kernel_rfl
/-- (*pantry/frames.Pool).made -/
abbrev n_frames_Pool_made : Nat := 135
def c_frames_Pool_made : AFn := ⟨13, [.tmp 2],
 .seq (.region [I 2 (.mv) [.lit (.bool false)]])
 (.seq (.region [I 3 (.mv) [T 0],
   I 4 (.eqv true .ptr) [T 3, .lit .nilptr],
   I 5 (.mv) [T 4],
   IG 6 (.mv) [T 0] 5 true,
   IG 7 (.nilCheck) [T 6] 5 true,
   IG 8 (.fieldAddr 0) [T 7] 5 true,
   IG 9 (.load1) [T 8] 5 true,
   IG 10 (.lens) [T 9] 5 true,
   IG 11 (.bin .gtr) [T 10, N 0] 5 true,
   I 12 (.pick) [T 5, T 11, .lit (.bool false)],
   I 2 (.mv) [T 12]])
 (.ret))⟩
theorem t135 : trFn Tryz.prog Tryz.f135 = some c_frames_Pool_made := by kernel_rfl
/-- (*pantry/phys.Memory).at -/
abbrev n_phys_Memory_at : Nat := 136
def c_phys_Memory_at : AFn := ⟨19, [.tmp 4],
 .seq (.region [I 4 (.mv) [.lit .nilptr]])
 (.seq (.seq (.region [I 5 (.mv) [T 1],
   I 6 (.bin .lss) [T 5, N 0],
   I 7 (.mv) [T 6],
   IG 8 (.mv) [T 1] 7 false,
   IG 9 (.mv) [T 0] 7 false,
   IG 10 (.callv) [F 58, T 9] 7 false,
   IG 11 (.bin .geq) [T 8, T 10] 7 false,
   I 12 (.pick) [T 7, .lit (.bool true), T 11]])
 (.cond (T 12)
 (.seq (.region [I 4 (.mv) [.lit .nilptr]])
  (.ret))
 (.skip)))
 (.seq (.region [I 13 (.mv) [T 0],
   I 14 (.nilCheck) [T 13],
   I 15 (.fieldAddr 0) [T 14],
   I 16 (.load1) [T 15],
   I 17 (.mv) [T 1],
   I 18 (.indexs 4096) [T 16, T 17],
   I 4 (.mv) [T 18]])
 (.ret)))⟩
theorem t136 : trFn Tryz.prog Tryz.f136 = some c_phys_Memory_at := by kernel_rfl
/-- (*pantry/amap.Pool).made -/
abbrev n_amap_Pool_made : Nat := 138
def c_amap_Pool_made : AFn := ⟨11, [.tmp 2],
 .seq (.region [I 2 (.mv) [.lit (.bool false)]])
 (.seq (.region [I 3 (.mv) [T 0],
   I 4 (.eqv true .ptr) [T 3, .lit .nilptr],
   I 5 (.mv) [T 4],
   IG 6 (.mv) [T 0] 5 true,
   IG 7 (.nilCheck) [T 6] 5 true,
   IG 8 (.fieldAddr 1) [T 7] 5 true,
   IG 9 (.load1) [T 8] 5 true,
   I 10 (.pick) [T 5, T 9, .lit (.bool false)],
   I 2 (.mv) [T 10]])
 (.ret))⟩
theorem t138 : trFn Tryz.prog Tryz.f138 = some c_amap_Pool_made := by kernel_rfl
/-- (*pantry/amap.Pool).of -/
abbrev n_amap_Pool_of : Nat := 139
def c_amap_Pool_of : AFn := ⟨29, [.tmp 4],
 .seq (.region [I 4 (.mv) [.lit .nilptr]])
 (.seq (.seq (.region [I 5 (.mv) [T 0],
   I 6 (.callv) [F 138, T 5],
   I 7 (.un .not) [T 6],
   I 8 (.mv) [T 7],
   IG 9 (.mv) [T 1] 8 false,
   IG 10 (.bin .lss) [T 9, N 1] 8 false,
   I 11 (.pick) [T 8, .lit (.bool true), T 10],
   I 12 (.mv) [T 11],
   IG 13 (.mv) [T 1] 12 false,
   IG 14 (.mv) [T 0] 12 false,
   IG 15 (.nilCheck) [T 14] 12 false,
   IG 16 (.fieldAddr 2) [T 15] 12 false,
   IG 17 (.load1) [T 16] 12 false,
   IG 18 (.lens) [T 17] 12 false,
   IG 19 (.bin .gtr) [T 13, T 18] 12 false,
   I 20 (.pick) [T 12, .lit (.bool true), T 19]])
 (.cond (T 20)
 (.seq (.region [I 4 (.mv) [.lit .nilptr]])
  (.ret))
 (.skip)))
 (.seq (.region [I 21 (.mv) [T 0],
   I 22 (.nilCheck) [T 21],
   I 23 (.fieldAddr 2) [T 22],
   I 24 (.load1) [T 23],
   I 25 (.mv) [T 1],
   I 26 (.bin .sub) [T 25, N 1],
   I 27 (.indexs 1) [T 24, T 26],
   I 28 (.load1) [T 27],
   I 4 (.mv) [T 28]])
 (.ret)))⟩
theorem t139 : trFn Tryz.prog Tryz.f139 = some c_amap_Pool_of := by kernel_rfl
/-- (*pantry/spread.Counts).At -/
abbrev n_spread_Counts_At : Nat := 140
/-- live: [4] -/
def c_spread_Counts_At_A0 : ACode :=
 .region [I 5 (.alloc 313 3 (.vals [(.int .i64 0), (.int .i64 0), (.int .i64 0)])) [],
   J (.store 3) [T 5, T 19]]
def c_spread_Counts_At_B0 : ACode :=
 .block 1 (.seq (.region [I 20 (.fieldAddr 2) [T 5],
   I 21 (.load1) [T 20],
   J (.store 1) [T 4, T 21]])
 (.ret))
def c_spread_Counts_At : AFn := ⟨22, [.cell 4 (.load1)],
 .seq (.region [I 4 (.alloc 3 1 (.vals [(.int .i64 0)])) []])
 (.seq (.seq (.region [I 6 (.mv) [T 1],
   I 7 (.bin .lss) [T 6, N 0],
   I 8 (.mv) [T 7],
   IG 9 (.mv) [T 1] 8 false,
   IG 10 (.mv) [T 0] 8 false,
   IG 11 (.callv) [F 229, T 10] 8 false,
   IG 12 (.bin .geq) [T 9, T 11] 8 false,
   I 13 (.pick) [T 8, .lit (.bool true), T 12]])
 (.cond (T 13)
 (.seq (.region [J (.store 1) [T 4, N (-1)]])
  (.ret))
 (.skip)))
 (.seq (.seq (.region [I 14 (.mv) [T 0],
   I 15 (.mv) [T 1],
   I 16 (.mv) [T 1],
   I 17 (.bin .add) [T 16, N 1],
   I 18 (.callv) [F 230, T 14, T 15, T 17]])
 (.block 0 (.rfun (T 18) [19] c_spread_Counts_At_A0 c_spread_Counts_At_B0)))
 (.seq (.region [J (.store 1) [T 4, N (-1)]])
 (.ret))))⟩
theorem t140 : trFn Tryz.prog Tryz.f140 = some c_spread_Counts_At := by kernel_rfl
/-- (*pantry/object.Pool).made -/
abbrev n_object_Pool_made : Nat := 141
def c_object_Pool_made : AFn := ⟨11, [.tmp 2],
 .seq (.region [I 2 (.mv) [.lit (.bool false)]])
 (.seq (.region [I 3 (.mv) [T 0],
   I 4 (.eqv true .ptr) [T 3, .lit .nilptr],
   I 5 (.mv) [T 4],
   IG 6 (.mv) [T 0] 5 true,
   IG 7 (.nilCheck) [T 6] 5 true,
   IG 8 (.fieldAddr 1) [T 7] 5 true,
   IG 9 (.load1) [T 8] 5 true,
   I 10 (.pick) [T 5, T 9, .lit (.bool false)],
   I 2 (.mv) [T 10]])
 (.ret))⟩
theorem t141 : trFn Tryz.prog Tryz.f141 = some c_object_Pool_made := by kernel_rfl
/-- maps.Keys[map[int]*pantry/object.one,int,*pantry/object.one] -/
abbrev n_maps_Keys_map_int_object_one_int_object_one : Nat := 142
def c_maps_Keys_map_int_object_one_int_object_one : AFn := ⟨4, [.tmp 2],
 .seq (.region [I 1 (.box 216 1) [T 0],
   I 2 (.mv) [.lit .nilfunc]])
 (.seq (.region [I 3 (.mkfunc 231 0) [T 1],
   I 2 (.mv) [T 3]])
 (.ret))⟩
theorem t142 : trFn Tryz.prog Tryz.f142 = some c_maps_Keys_map_int_object_one_int_object_one := by kernel_rfl
/-- (*pantry/pmap.Map).made -/
abbrev n_pmap_Map_made : Nat := 146
def c_pmap_Map_made : AFn := ⟨12, [.tmp 2],
 .seq (.region [I 2 (.mv) [.lit (.bool false)]])
 (.seq (.region [I 3 (.mv) [T 0],
   I 4 (.eqv true .ptr) [T 3, .lit .nilptr],
   I 5 (.mv) [T 4],
   IG 6 (.mv) [T 0] 5 true,
   IG 7 (.nilCheck) [T 6] 5 true,
   IG 8 (.fieldAddr 4) [T 7] 5 true,
   IG 9 (.load1) [T 8] 5 true,
   IG 10 (.bin .gtr) [T 9, N 0] 5 true,
   I 11 (.pick) [T 5, T 10, .lit (.bool false)],
   I 2 (.mv) [T 11]])
 (.ret))⟩
theorem t146 : trFn Tryz.prog Tryz.f146 = some c_pmap_Map_made := by kernel_rfl
/-- (*pantry/pmap.Map).All$1 -/
abbrev n_pmap_Map_All_1 : Nat := 147
/-- live: [2] -/
def c_pmap_Map_All_1_A0 : ACode :=
 .seq (.region [I 3 (.mv) [T 17]])
 (.region [I 4 (.alloc 139 2 (.vals [(.int .i64 0), (.int .i64 0)])) [],
   J (.store 2) [T 4, T 18]])
def c_pmap_Map_All_1_B0 : ACode :=
 .block 1 (.seq (.region [I 19 (.load1) [T 2],
   I 20 (.mv) [T 3],
   I 21 (.loadn 2) [T 4],
   I 22 (.callv) [T 19, T 20, T 21],
   I 23 (.un .not) [T 22]])
 (.cond (T 23)
 (.ret)
 (.skip)))
def c_pmap_Map_All_1 : AFn := ⟨24, [],
 .seq (.region [I 2 (.box 228 1) [T 0]])
 (.seq (.seq (.region [I 5 (.load1) [T 1],
   I 6 (.callv) [F 146, T 5],
   I 7 (.un .not) [T 6]])
 (.cond (T 7)
 (.ret)
 (.skip)))
 (.seq (.draw [[⟨0, I 8 (.load1) [T 1], [], false⟩,
   ⟨1, I 9 (.nilCheck) [T 8], [], false⟩,
   ⟨2, I 10 (.fieldAddr 0) [T 9], [], false⟩,
   ⟨3, I 11 (.load1) [T 10], [], false⟩,
   ⟨4, I 12 (.load1) [T 1], [], false⟩,
   ⟨5, I 13 (.nilCheck) [T 12], [], false⟩,
   ⟨6, I 14 (.fieldAddr 3) [T 13], [], false⟩,
   ⟨7, I 15 (.load1) [T 14], [], false⟩,
   ⟨8, I 16 (.callv) [F 148, T 11, T 15], [], false⟩]])
 (.block 0 (.rfun (T 16) [17, 18] c_pmap_Map_All_1_A0 c_pmap_Map_All_1_B0))))⟩
theorem t147 : trFn Tryz.prog Tryz.f147 = some c_pmap_Map_All_1 := by kernel_rfl
/-- pantry/walk.Leaves -/
abbrev n_walk_Leaves : Nat := 148
def c_walk_Leaves : AFn := ⟨6, [.tmp 4],
 .seq (.region [I 2 (.box 47 1) [T 0],
   I 3 (.box 3 1) [T 1],
   I 4 (.mv) [.lit .nilfunc]])
 (.seq (.region [I 5 (.mkfunc 233 0) [T 2, T 3],
   I 4 (.mv) [T 5]])
 (.ret))⟩
theorem t148 : trFn Tryz.prog Tryz.f148 = some c_walk_Leaves := by kernel_rfl
/-- pantry/pte.Kind -/
abbrev n_pte_Kind : Nat := 149
def c_pte_Kind : AFn := ⟨19, [.tmp 2],
 .seq (.region [I 1 (.box 139 2) [T 0],
   I 2 (.mv) [N 0]])
 (.seq (.block 0 (.seq (.region [I 4 (.fieldAddr 0) [T 1],
   I 5 (.load1) [T 4],
   I 6 (.bin .and) [T 5, N 1],
   I 7 (.bin .eql) [T 6, N 0],
   I 8 (.mv) [T 7],
   IG 9 (.fieldAddr 0) [T 1] 8 false,
   IG 10 (.load1) [T 9] 8 false,
   IG 11 (.bin .and) [T 10, N 6] 8 false,
   IG 12 (.bin .eql) [T 11, N 4] 8 false,
   I 13 (.pick) [T 8, .lit (.bool true), T 12],
   I 3 (.mv) [T 13]])
 (.cond (T 3)
 (.seq (.region [I 2 (.mv) [N 0]])
  (.ret))
 (.seq (.region [I 15 (.fieldAddr 0) [T 1],
    I 16 (.load1) [T 15],
    I 17 (.bin .and) [T 16, N 10],
    I 18 (.bin .eql) [T 17, N 0],
    I 14 (.mv) [T 18]])
  (.cond (T 14)
  (.seq (.region [I 2 (.mv) [N 1]])
   (.ret))
  (.skip))))))
 (.seq (.region [I 2 (.mv) [N 2]])
 (.ret)))⟩
theorem t149 : trFn Tryz.prog Tryz.f149 = some c_pte_Kind := by kernel_rfl
/-- pantry/pte.gather -/
abbrev n_pte_gather : Nat := 150
/-- live: [3, 6, 7, 8] -/
def c_pte_gather_L0 : ACode :=
 .seq (.region [I 9 (.bin .lss) [T 8, T 7]])
 (.seq (.cond (T 9)
 (.skip)
 (.exit 0))
 (.seq (.block 1 (.seq (.region [I 10 (.indexs 2) [T 6, T 8],
   I 11 (.loadn 2) [T 10],
   I 5 (.alloc 232 2 (.vals [(.bool false), (.int .i64 0)])) [],
   J (.store 2) [T 5, T 11]])
 (.seq (.region [I 12 (.fieldAddr 0) [T 5],
   I 13 (.load1) [T 12]])
 (.cond (T 13)
 (.region [I 14 (.mv) [T 3],
    I 15 (.fieldAddr 1) [T 5],
    I 16 (.load1) [T 15],
    I 17 (.bin .or) [T 14, T 16],
    I 3 (.mv) [T 17]])
 (.skip)))))
 (.region [I 18 (.bin .add) [T 8, N 1],
   I 8 (.mv) [T 18]])))
def c_pte_gather : AFn := ⟨20, [.tmp 2],
 .seq (.region [I 2 (.mv) [N 0]])
 (.seq (.region [I 3 (.mv) [N 0]])
 (.seq (.seq (.region [I 6 (.mv) [T 0],
   I 7 (.lens) [T 6],
   I 8 (.mv) [N 0]])
 (.block 0 (.loop c_pte_gather_L0)))
 (.seq (.region [I 19 (.mv) [T 3],
   I 2 (.mv) [T 19]])
 (.ret))))⟩
theorem t150 : trFn Tryz.prog Tryz.f150 = some c_pte_gather := by kernel_rfl
/-- (*pantry/swap.Device).made -/
abbrev n_swap_Device_made : Nat := 151
def c_swap_Device_made : AFn := ⟨11, [.tmp 2],
 .seq (.region [I 2 (.mv) [.lit (.bool false)]])
 (.seq (.region [I 3 (.mv) [T 0],
   I 4 (.eqv true .ptr) [T 3, .lit .nilptr],
   I 5 (.mv) [T 4],
   IG 6 (.mv) [T 0] 5 true,
   IG 7 (.nilCheck) [T 6] 5 true,
   IG 8 (.fieldAddr 1) [T 7] 5 true,
   IG 9 (.load1) [T 8] 5 true,
   I 10 (.pick) [T 5, T 9, .lit (.bool false)],
   I 2 (.mv) [T 10]])
 (.ret))⟩
theorem t151 : trFn Tryz.prog Tryz.f151 = some c_swap_Device_made := by kernel_rfl
/-- pantry/slots.has -/
abbrev n_slots_has : Nat := 153
def c_slots_has : AFn := ⟨15, [.tmp 4],
 .seq (.region [I 4 (.mv) [.lit (.bool false)]])
 (.seq (.region [I 5 (.mv) [T 0],
   I 6 (.mv) [T 1],
   I 7 (.bin .quo) [T 6, N 64],
   I 8 (.indexs 1) [T 5, T 7],
   I 9 (.load1) [T 8],
   I 10 (.mv) [T 1],
   I 11 (.bin .rem) [T 10, N 64],
   I 12 (.bin .shr) [T 9, T 11],
   I 13 (.bin .and) [T 12, .lit (.int .u64 1)],
   I 14 (.bin .gtr) [T 13, .lit (.int .u64 0)],
   I 4 (.mv) [T 14]])
 (.ret))⟩
theorem t153 : trFn Tryz.prog Tryz.f153 = some c_slots_has := by kernel_rfl
/-- (*pantry/phys.Memory).SetByte -/
abbrev n_phys_Memory_SetByte : Nat := 159
def c_phys_Memory_SetByte : AFn := ⟨28, [.tmp 8],
 .seq (.region [I 8 (.mv) [.lit (.bool false)]])
 (.seq (.region [I 10 (.mv) [T 0],
   I 11 (.mv) [T 1],
   I 12 (.callv) [F 136, T 10, T 11],
   I 9 (.mv) [T 12]])
 (.seq (.seq (.region [I 13 (.mv) [T 9],
   I 14 (.eqv false .ptr) [T 13, .lit .nilptr],
   I 15 (.mv) [T 14],
   IG 16 (.mv) [T 2] 15 false,
   IG 17 (.bin .lss) [T 16, N 0] 15 false,
   I 18 (.pick) [T 15, .lit (.bool true), T 17],
   I 19 (.mv) [T 18],
   IG 20 (.mv) [T 2] 19 false,
   IG 21 (.bin .geq) [T 20, N 4096] 19 false,
   I 22 (.pick) [T 19, .lit (.bool true), T 21]])
 (.cond (T 22)
 (.seq (.region [I 8 (.mv) [.lit (.bool false)]])
  (.ret))
 (.skip)))
 (.seq (.region [I 23 (.mv) [T 9],
   I 24 (.mv) [T 2],
   I 25 (.mv) [T 3],
   I 26 (.nilCheck) [T 23],
   I 27 (.indexa 4096 1) [T 26, T 24],
   J (.store 1) [T 27, T 25]])
 (.seq (.region [I 8 (.mv) [.lit (.bool true)]])
 (.ret)))))⟩
theorem t159 : trFn Tryz.prog Tryz.f159 = some c_phys_Memory_SetByte := by kernel_rfl
/-- (*pantry/vmap.Map).Map -/
abbrev n_vmap_Map_Map : Nat := 160
def c_vmap_Map_Map : AFn := ⟨100, [.tmp 8, .tmp 9, .tmp 10],
 .seq (.region [I 6 (.box 94 10) [T 2],
   I 8 (.mv) [N 0],
   I 9 (.mv) [.lit .nilsl],
   I 10 (.mv) [N 0]])
 (.seq (.seq (.region [I 16 (.mv) [T 0],
   I 17 (.callv) [F 121, T 16],
   I 18 (.un .not) [T 17]])
 (.cond (T 18)
 (.seq (.region [I 8 (.mv) [N 0],
    I 9 (.mv) [.lit .nilsl],
    I 10 (.mv) [N 1]])
  (.ret))
 (.skip)))
 (.seq (.seq (.region [I 19 (.fieldAddr 0) [T 6],
   I 20 (.load1) [T 19],
   I 21 (.bin .lss) [T 20, N 0],
   I 22 (.mv) [T 21],
   IG 23 (.fieldAddr 1) [T 6] 22 false,
   IG 24 (.load1) [T 23] 22 false,
   IG 25 (.fieldAddr 0) [T 6] 22 false,
   IG 26 (.load1) [T 25] 22 false,
   IG 27 (.bin .leq) [T 24, T 26] 22 false,
   I 28 (.pick) [T 22, .lit (.bool true), T 27],
   I 29 (.mv) [T 28],
   IG 30 (.fieldAddr 1) [T 6] 29 false,
   IG 31 (.load1) [T 30] 29 false,
   IG 32 (.fieldAddr 0) [T 6] 29 false,
   IG 33 (.load1) [T 32] 29 false,
   IG 34 (.bin .sub) [T 31, T 33] 29 false,
   IG 35 (.bin .gtr) [T 34, N 4096] 29 false,
   I 36 (.pick) [T 29, .lit (.bool true), T 35]])
 (.cond (T 36)
 (.seq (.region [I 8 (.mv) [N 0],
    I 9 (.mv) [.lit .nilsl],
    I 10 (.mv) [N 2]])
  (.ret))
 (.skip)))
 (.seq (.region [I 37 (.fieldAddr 1) [T 6],
   I 38 (.load1) [T 37],
   I 39 (.fieldAddr 0) [T 6],
   I 40 (.load1) [T 39],
   I 41 (.bin .sub) [T 38, T 40],
   I 11 (.mv) [T 41]])
 (.seq (.region [I 42 (.mv) [T 11],
   I 43 (.fieldAddr 0) [T 6],
   J (.store 1) [T 43, N 0],
   I 44 (.fieldAddr 1) [T 6],
   J (.store 1) [T 44, T 42]])
 (.seq (.seq (.region [I 45 (.loadn 10) [T 6],
   I 46 (.callv) [F 249, T 45],
   I 47 (.un .not) [T 46],
   I 48 (.mv) [T 47],
   IG 49 (.mv) [T 3] 48 false,
   IG 50 (.mv) [T 49] 48 false,
   IG 51 (.mv) [T 1] 50 true,
   IG 52 (.mv) [T 11] 50 true,
   IG 53 (.callv) [F 250, T 51, T 52] 50 true,
   IG 54 (.un .not) [T 53] 50 true,
   IG 55 (.pick) [T 50, T 54, .lit (.bool false)] 48 false,
   I 56 (.pick) [T 48, .lit (.bool true), T 55]])
 (.cond (T 56)
 (.seq (.region [I 8 (.mv) [N 0],
    I 9 (.mv) [.lit .nilsl],
    I 10 (.mv) [N 2]])
  (.ret))
 (.skip)))
 (.seq (.region [I 12 (.mv) [.lit .nilsl]])
 (.seq (.region [I 57 (.mv) [T 0],
   I 58 (.nilCheck) [T 57],
   I 59 (.fieldAddr 0) [T 58],
   I 60 (.load1) [T 59],
   I 13 (.mv) [T 60]])
 (.seq (.seq (.region [I 61 (.mv) [T 3]])
 (.cond (T 61)
 (.region [I 63 (.mv) [T 13],
    I 64 (.mv) [T 1],
    I 65 (.mv) [T 1],
    I 66 (.mv) [T 11],
    I 67 (.bin .add) [T 65, T 66],
    I 68 (.callv) [F 251, T 63, T 64, T 67],
    I 62 (.mv) [T 68],
    I 69 (.extract 0) [T 62],
    I 70 (.extract 1) [T 62],
    I 13 (.mv) [T 69],
    I 12 (.mv) [T 70]])
 (.seq (.region [I 72 (.mv) [T 13],
    I 73 (.mv) [T 1],
    I 74 (.mv) [T 11],
    I 75 (.callv) [F 252, T 72, T 73, T 74],
    I 71 (.mv) [T 75],
    I 76 (.extract 0) [T 71],
    I 77 (.extract 1) [T 71],
    I 14 (.mv) [T 76],
    I 15 (.mv) [T 77]])
  (.seq (.seq (.region [I 78 (.mv) [T 15],
    I 79 (.un .not) [T 78]])
  (.cond (T 79)
  (.seq (.region [I 8 (.mv) [N 0],
     I 9 (.mv) [.lit .nilsl],
     I 10 (.mv) [N 5]])
   (.ret))
  (.skip)))
  (.region [I 80 (.mv) [T 14],
    I 1 (.mv) [T 80]])))))
 (.seq (.region [I 81 (.mv) [T 1],
   I 82 (.mv) [T 1],
   I 83 (.mv) [T 11],
   I 84 (.bin .add) [T 82, T 83],
   I 85 (.fieldAddr 0) [T 6],
   J (.store 1) [T 85, T 81],
   I 86 (.fieldAddr 1) [T 6],
   J (.store 1) [T 86, T 84]])
 (.seq (.region [I 88 (.mv) [T 13],
   I 89 (.loadn 10) [T 6],
   I 90 (.callv) [F 253, T 88, T 89],
   I 87 (.mv) [T 90],
   I 91 (.extract 0) [T 87],
   I 92 (.extract 1) [T 87],
   I 13 (.mv) [T 91]])
 (.seq (.region [I 93 (.mv) [T 0],
   I 94 (.mv) [T 13],
   I 95 (.callv) [F 254, T 94],
   I 96 (.nilCheck) [T 93],
   I 97 (.fieldAddr 0) [T 96],
   J (.store 1) [T 97, T 95]])
 (.seq (.region [I 98 (.mv) [T 1],
   I 99 (.mv) [T 12],
   I 8 (.mv) [T 98],
   I 9 (.mv) [T 99],
   I 10 (.mv) [N 0]])
 (.ret)))))))))))))⟩
theorem t160 : trFn Tryz.prog Tryz.f160 = some c_vmap_Map_Map := by kernel_rfl
/-- (*pantry/kern.Kernel).reap -/
abbrev n_kern_Kernel_reap : Nat := 162
/-- live: [0, 2, 15, 24, 25, 26] -/
def c_kern_Kernel_reap_L1 : ACode :=
 .seq (.region [I 27 (.bin .lss) [T 26, T 25]])
 (.seq (.cond (T 27)
 (.skip)
 (.exit 2))
 (.seq (.block 3 (.seq (.region [I 28 (.indexs 10) [T 24, T 26],
   I 29 (.loadn 10) [T 28],
   I 6 (.alloc 94 10 (.vals [(.int .i64 0), (.int .i64 0), (.int .i64 0), (.int .i64 0), (.bool false), (.int .i64 0), (.int .i64 0), (.int .i64 0), (.int .i64 0), (.bool false)])) [],
   J (.store 10) [T 6, T 29]])
 (.region [I 30 (.mv) [T 2],
   I 31 (.fieldAddr 2) [T 6],
   I 32 (.load1) [T 31],
   J (.mapput (.scal .int)) [T 30, T 32, .lit (.bool true)]])))
 (.region [I 33 (.bin .add) [T 26, N 1],
   I 26 (.mv) [T 33]])))
/-- live: [0, 2, 15] -/
def c_kern_Kernel_reap_L0 : ACode :=
 .seq (.region [I 16 (.next) [T 15],
   I 17 (.extract 0) [T 16]])
 (.seq (.cond (T 17)
 (.skip)
 (.exit 0))
 (.block 1 (.seq (.region [I 18 (.entry) [T 15],
   I 19 (.extract 1) [T 18],
   I 4 (.mv) [T 19]])
 (.seq (.region [I 20 (.mv) [T 4],
   I 21 (.nilCheck) [T 20],
   I 22 (.fieldAddr 1) [T 21],
   I 23 (.load1) [T 22],
   I 24 (.callv) [F 96, T 23],
   I 25 (.lens) [T 24],
   I 26 (.mv) [N 0]])
 (.block 2 (.loop c_kern_Kernel_reap_L1))))))
/-- live: [0, 2, 38, 39, 40] -/
def c_kern_Kernel_reap_L2 : ACode :=
 .seq (.region [I 41 (.bin .lss) [T 40, T 39]])
 (.seq (.cond (T 41)
 (.skip)
 (.exit 4))
 (.seq (.block 5 (.seq (.region [I 42 (.indexs 1) [T 38, T 40],
   I 43 (.load1) [T 42],
   I 8 (.mv) [T 43]])
 (.seq (.region [I 44 (.mv) [T 0],
   I 45 (.nilCheck) [T 44],
   I 46 (.fieldAddr 7) [T 45],
   I 47 (.load1) [T 46],
   I 48 (.mv) [T 8],
   I 49 (.callv) [F 66, T 47, T 48],
   I 9 (.mv) [T 49]])
 (.seq (.region [I 50 (.mv) [T 9],
   I 51 (.bin .gtr) [T 50, N 1000],
   I 52 (.mv) [T 51],
   IG 53 (.mv) [T 2] 52 true,
   IG 54 (.mv) [T 9] 52 true,
   IG 55 (.lookup (.scal .int) (.bool false) false) [T 53, T 54] 52 true,
   IG 56 (.un .not) [T 55] 52 true,
   I 57 (.pick) [T 52, T 56, .lit (.bool false)]])
 (.cond (T 57)
 (.region [I 58 (.mv) [T 0],
    I 59 (.mv) [T 8],
    I 60 (.callv) [F 156, T 58, T 59, N 0]])
 (.skip))))))
 (.region [I 61 (.bin .add) [T 40, N 1],
   I 40 (.mv) [T 61]])))
def c_kern_Kernel_reap : AFn := ⟨62, [],
 .seq (.region [I 10 (.mkmap) [],
   I 2 (.mv) [T 10]])
 (.seq (.seq (.region [I 11 (.mv) [T 0],
   I 12 (.nilCheck) [T 11],
   I 13 (.fieldAddr 9) [T 12],
   I 14 (.load1) [T 13],
   I 15 (.range) [T 14]])
 (.block 0 (.loop c_kern_Kernel_reap_L0)))
 (.seq (.region [I 34 (.mv) [T 0],
   I 35 (.nilCheck) [T 34],
   I 36 (.fieldAddr 7) [T 35],
   I 37 (.load1) [T 36],
   I 38 (.callv) [F 64, T 37],
   I 39 (.lens) [T 38],
   I 40 (.mv) [N 0]])
 (.block 4 (.loop c_kern_Kernel_reap_L2))))⟩
theorem t162 : trFn Tryz.prog Tryz.f162 = some c_kern_Kernel_reap := by kernel_rfl
/-- (*pantry/amap.Pool).Make -/
abbrev n_amap_Pool_Make : Nat := 170
def c_amap_Pool_Make : AFn := ⟨79, [.tmp 4, .tmp 5],
 .seq (.region [I 4 (.mv) [N 0],
   I 5 (.mv) [N 0]])
 (.seq (.block 0 (.seq (.region [I 9 (.mv) [T 0],
   I 10 (.callv) [F 138, T 9],
   I 11 (.un .not) [T 10],
   I 8 (.mv) [T 11]])
 (.cond (T 8)
 (.seq (.region [I 4 (.mv) [N 0],
    I 5 (.mv) [N 1]])
  (.ret))
 (.seq (.region [I 13 (.mv) [T 1],
    I 14 (.bin .lss) [T 13, N 1],
    I 15 (.mv) [T 14],
    IG 16 (.mv) [T 1] 15 false,
    IG 17 (.bin .gtr) [T 16, N 4096] 15 false,
    I 18 (.pick) [T 15, .lit (.bool true), T 17],
    I 12 (.mv) [T 18]])
  (.cond (T 12)
  (.seq (.region [I 4 (.mv) [N 0],
     I 5 (.mv) [N 2]])
   (.ret))
  (.seq (.draw [[⟨0, I 20 (.mv) [T 0], [], false⟩,
     ⟨1, I 21 (.nilCheck) [T 20], [], false⟩,
     ⟨2, I 22 (.fieldAddr 3) [T 21], [], false⟩,
     ⟨3, I 23 (.load1) [T 22], [], false⟩,
     ⟨4, I 24 (.mv) [T 0], [], false⟩,
     ⟨5, I 25 (.nilCheck) [T 24], [], false⟩,
     ⟨6, I 26 (.fieldAddr 0) [T 25], [], false⟩,
     ⟨7, I 27 (.load1) [T 26], [], false⟩,
     ⟨8, I 28 (.bin .geq) [T 23, T 27], [], false⟩,
     ⟨9, I 19 (.mv) [T 28], [], false⟩]])
   (.cond (T 19)
   (.seq (.region [I 4 (.mv) [N 0],
      I 5 (.mv) [N 5]])
    (.ret))
   (.skip))))))))
 (.seq (.draw [[⟨0, I 29 (.mv) [T 1], [], false⟩,
   ⟨2, I 31 (.mv) [T 1], [], false⟩,
   ⟨1, I 30 (.callv) [F 267, T 29], [], false⟩,
   ⟨3, I 32 (.mkslice 3 1 8 (.vals [(.int .i64 0)])) [T 31, T 31], [], false⟩,
   ⟨4, I 33 (.build (.agg [.nilptr, .nilsl]) [(0, 1), (1, 1)]) [T 30, T 32], [], false⟩,
   ⟨5, I 34 (.box 214 2) [T 33], [], false⟩,
   ⟨6, I 6 (.mv) [T 34], [], false⟩],
[⟨0, I 29 (.mv) [T 1], [], false⟩,
   ⟨2, I 31 (.mv) [T 1], [], false⟩,
   ⟨3, I 32 (.mkslice 3 1 8 (.vals [(.int .i64 0)])) [T 31, T 31], [], false⟩,
   ⟨1, I 30 (.callv) [F 267, T 29], [], false⟩,
   ⟨4, I 33 (.build (.agg [.nilptr, .nilsl]) [(0, 1), (1, 1)]) [T 30, T 32], [], false⟩,
   ⟨5, I 34 (.box 214 2) [T 33], [], false⟩,
   ⟨6, I 6 (.mv) [T 34], [], false⟩]])
 (.seq (.region [I 35 (.mv) [T 6],
   I 36 (.nilCheck) [T 35],
   I 37 (.fieldAddr 0) [T 36],
   I 38 (.load1) [T 37],
   I 39 (.mv) [T 1],
   I 40 (.callv) [F 268, T 38, N 0, T 39, N 1]])
 (.seq (.region [I 41 (.mv) [T 0],
   I 42 (.nilCheck) [T 41],
   I 43 (.fieldAddr 3) [T 42],
   I 44 (.load1) [T 43],
   I 45 (.bin .add) [T 44, N 1],
   I 46 (.nilCheck) [T 41],
   I 47 (.fieldAddr 3) [T 46],
   J (.store 1) [T 47, T 45]])
 (.seq (.seq (.region [I 48 (.mv) [T 0],
   I 49 (.nilCheck) [T 48],
   I 50 (.fieldAddr 2) [T 49],
   I 51 (.load1) [T 50],
   I 52 (.callv) [F 269, T 51, .lit .nilptr],
   I 7 (.mv) [T 52]])
 (.seq (.region [I 53 (.mv) [T 7],
   I 54 (.bin .geq) [T 53, N 0]])
 (.cond (T 54)
 (.seq (.region [I 55 (.mv) [T 0],
    I 56 (.nilCheck) [T 55],
    I 57 (.fieldAddr 2) [T 56],
    I 58 (.load1) [T 57],
    I 59 (.mv) [T 7],
    I 60 (.mv) [T 6],
    I 61 (.indexs 1) [T 58, T 59],
    J (.store 1) [T 61, T 60]])
  (.seq (.region [I 62 (.mv) [T 7],
    I 63 (.bin .add) [T 62, N 1],
    I 4 (.mv) [T 63],
    I 5 (.mv) [N 0]])
  (.ret)))
 (.skip))))
 (.seq (.region [I 64 (.mv) [T 0],
   I 65 (.mv) [T 0],
   I 66 (.nilCheck) [T 65],
   I 67 (.fieldAddr 2) [T 66],
   I 68 (.load1) [T 67],
   I 69 (.mv) [T 6],
   I 70 (.bslice 210 1 1 (.vals [.nilptr]) [0]) [T 69],
   I 71 (.append 210 1 8 (.vals [.nilptr])) [T 68, T 70],
   I 72 (.nilCheck) [T 64],
   I 73 (.fieldAddr 2) [T 72],
   J (.store 1) [T 73, T 71]])
 (.seq (.region [I 74 (.mv) [T 0],
   I 75 (.nilCheck) [T 74],
   I 76 (.fieldAddr 2) [T 75],
   I 77 (.load1) [T 76],
   I 78 (.lens) [T 77],
   I 4 (.mv) [T 78],
   I 5 (.mv) [N 0]])
 (.ret))))))))⟩
theorem t170 : trFn Tryz.prog Tryz.f170 = some c_amap_Pool_Make := by kernel_rfl
/-- (*pantry/kern.proc).insert -/
abbrev n_kern_proc_insert : Nat := 173
def c_kern_proc_insert : AFn := ⟨29, [],
 .seq (.region [I 3 (.box 132 6) [T 1]])
 (.seq (.region [I 5 (.mv) [T 0],
   I 6 (.nilCheck) [T 5],
   I 7 (.fieldAddr 3) [T 6],
   I 8 (.load1) [T 7],
   I 9 (.mkfunc 275 0) [T 3],
   I 10 (.callv) [F 216, T 8, T 9],
   I 4 (.mv) [T 10]])
 (.seq (.seq (.region [I 11 (.mv) [T 4],
   I 12 (.bin .lss) [T 11, N 0]])
 (.cond (T 12)
 (.region [I 13 (.mv) [T 0],
    I 14 (.nilCheck) [T 13],
    I 15 (.fieldAddr 3) [T 14],
    I 16 (.load1) [T 15],
    I 17 (.lens) [T 16],
    I 4 (.mv) [T 17]])
 (.skip)))
 (.draw [[⟨0, I 18 (.mv) [T 0], [], false⟩,
   ⟨1, I 19 (.mv) [T 0], [], false⟩,
   ⟨2, I 20 (.nilCheck) [T 19], [], false⟩,
   ⟨3, I 21 (.fieldAddr 3) [T 20], [], false⟩,
   ⟨4, I 22 (.load1) [T 21], [], false⟩,
   ⟨5, I 23 (.mv) [T 4], [], false⟩,
   ⟨6, I 24 (.loadn 6) [T 3], [], false⟩,
   ⟨7, I 25 (.bslice 132 6 1 (.vals [(.int .i64 0), (.int .i64 0), (.int .i64 0), (.int .i64 0), (.bool false), (.bool false)]) [0]) [T 24], [(4, I 22 (.load1) [T 21])], false⟩,
   ⟨8, I 26 (.callv) [F 276, T 22, T 23, T 25], [], false⟩,
   ⟨9, I 27 (.nilCheck) [T 18], [], false⟩,
   ⟨10, I 28 (.fieldAddr 3) [T 27], [], false⟩,
   ⟨11, J (.store 1) [T 28, T 26], [], false⟩]])))⟩
theorem t173 : trFn Tryz.prog Tryz.f173 = some c_kern_proc_insert := by kernel_rfl
/-- (*pantry/pmap.Map).change -/
abbrev n_pmap_Map_change : Nat := 180
def c_pmap_Map_change : AFn := ⟨52, [.tmp 6],
 .seq (.region [I 6 (.mv) [.lit (.bool false)]])
 (.seq (.region [I 14 (.mv) [T 0],
   I 15 (.mv) [T 1],
   I 16 (.callv) [F 286, T 14, T 15],
   I 13 (.mv) [T 16],
   I 17 (.extract 0) [T 13],
   I 18 (.extract 1) [T 13],
   I 7 (.alloc 139 2 (.vals [(.int .i64 0), (.int .i64 0)])) [],
   J (.store 2) [T 7, T 17],
   I 8 (.mv) [T 18]])
 (.seq (.seq (.region [I 19 (.mv) [T 8],
   I 20 (.un .not) [T 19]])
 (.cond (T 20)
 (.seq (.region [I 6 (.mv) [.lit (.bool false)]])
  (.ret))
 (.skip)))
 (.seq (.draw [[⟨0, I 22 (.mv) [T 0], [], false⟩,
   ⟨1, I 23 (.nilCheck) [T 22], [], false⟩,
   ⟨2, I 24 (.fieldAddr 0) [T 23], [], false⟩,
   ⟨3, I 25 (.load1) [T 24], [], false⟩,
   ⟨4, I 26 (.mv) [T 0], [], false⟩,
   ⟨5, I 27 (.nilCheck) [T 26], [], false⟩,
   ⟨6, I 28 (.fieldAddr 3) [T 27], [], false⟩,
   ⟨7, I 29 (.load1) [T 28], [], false⟩,
   ⟨8, I 30 (.mv) [T 1], [], false⟩,
   ⟨9, I 31 (.callv) [F 287, T 25, T 29, T 30], [], false⟩,
   ⟨10, I 21 (.mv) [T 31], [], false⟩,
   ⟨11, I 32 (.extract 0) [T 21], [], false⟩,
   ⟨12, I 33 (.extract 1) [T 21], [], false⟩,
   ⟨13, I 34 (.extract 2) [T 21], [], false⟩,
   ⟨14, I 9 (.mv) [T 32], [], false⟩,
   ⟨15, I 10 (.mv) [T 33], [], false⟩,
   ⟨16, I 11 (.mv) [T 34], [], false⟩]])
 (.seq (.region [I 35 (.mv) [T 2],
   I 36 (.loadn 2) [T 7],
   I 37 (.callv) [T 35, T 36],
   I 38 (.callv) [F 288, T 37],
   I 12 (.mv) [T 38]])
 (.seq (.region [I 39 (.mv) [T 0],
   I 40 (.nilCheck) [T 39],
   I 41 (.fieldAddr 0) [T 40],
   I 42 (.load1) [T 41],
   I 43 (.mv) [T 9],
   I 44 (.mv) [T 10],
   I 45 (.mv) [T 12],
   I 46 (.callv) [F 289, T 42, T 43, T 44, T 45]])
 (.seq (.seq (.region [I 47 (.mv) [T 12],
   I 48 (.bin .eql) [T 47, .lit (.int .u64 0)]])
 (.cond (T 48)
 (.region [I 49 (.mv) [T 0],
    I 50 (.mv) [T 1],
    I 51 (.callv) [F 290, T 49, T 50]])
 (.skip)))
 (.seq (.region [I 6 (.mv) [.lit (.bool true)]])
 (.ret))))))))⟩
theorem t180 : trFn Tryz.prog Tryz.f180 = some c_pmap_Map_change := by kernel_rfl
/-- (*pantry/pmap.Map).Clear$1 -/
abbrev n_pmap_Map_Clear_1 : Nat := 181
def c_pmap_Map_Clear_1 : AFn := ⟨16, [.cell 4 (.loadn 2)],
 .seq (.region [I 3 (.box 139 2) [T 0],
   I 4 (.alloc 139 2 (.vals [(.int .i64 0), (.int .i64 0)])) []])
 (.seq (.region [I 5 (.fieldAddr 0) [T 3],
   I 6 (.load1) [T 5],
   I 7 (.load1) [T 1],
   I 8 (.bin .and) [T 6, T 7],
   I 9 (.bin .and) [T 8, N 192],
   J (.store 1) [T 2, T 9]])
 (.seq (.region [I 10 (.fieldAddr 0) [T 3],
   I 11 (.load1) [T 10],
   I 12 (.load1) [T 2],
   I 13 (.bin .andNot) [T 11, T 12],
   I 14 (.fieldAddr 0) [T 3],
   J (.store 1) [T 14, T 13]])
 (.seq (.region [I 15 (.loadn 2) [T 3],
   J (.store 2) [T 4, T 15]])
 (.ret))))⟩
theorem t181 : trFn Tryz.prog Tryz.f181 = some c_pmap_Map_Clear_1 := by kernel_rfl
/-- (*pantry/tlb.Table).drop -/
abbrev n_tlb_Table_drop : Nat := 182
/-- live: [0, 1, 5, 6, 19, 20, 21] -/
def c_tlb_Table_drop_L0 : ACode :=
 .seq (.region [I 22 (.bin .lss) [T 21, T 20]])
 (.seq (.cond (T 22)
 (.skip)
 (.exit 0))
 (.seq (.block 1 (.seq (.region [I 23 (.indexs 2) [T 19, T 21],
   I 24 (.loadn 2) [T 23],
   I 8 (.alloc 150 2 (.vals [(.int .i64 0), (.int .i64 0)])) [],
   J (.store 2) [T 8, T 24]])
 (.seq (.region [I 25 (.mv) [T 1],
   I 26 (.loadn 2) [T 8],
   I 27 (.callv) [T 25, T 26]])
 (.cond (T 27)
 (.draw [[⟨0, I 28 (.mv) [T 0], [], false⟩,
    ⟨1, I 29 (.nilCheck) [T 28], [], false⟩,
    ⟨2, I 30 (.fieldAddr 2) [T 29], [], false⟩,
    ⟨3, I 31 (.load1) [T 30], [], false⟩,
    ⟨4, I 32 (.loadn 2) [T 8], [], false⟩,
    ⟨5, J (.delete (.flat [.int, .int])) [T 31, T 32], [], false⟩]])
 (.region [I 33 (.mv) [T 6],
    I 34 (.loadn 2) [T 8],
    I 35 (.bslice 150 2 1 (.vals [(.int .i64 0), (.int .i64 0)]) [0]) [T 34],
    I 36 (.append 150 2 16 (.vals [(.int .i64 0), (.int .i64 0)])) [T 33, T 35],
    I 6 (.mv) [T 36]])))))
 (.region [I 37 (.bin .add) [T 21, N 1],
   I 21 (.mv) [T 37]])))
def c_tlb_Table_drop : AFn := ⟨46, [.tmp 4],
 .seq (.region [I 4 (.mv) [N 0]])
 (.seq (.seq (.region [I 9 (.mv) [T 0],
   I 10 (.eqv false .ptr) [T 9, .lit .nilptr]])
 (.cond (T 10)
 (.seq (.region [I 4 (.mv) [N 0]])
  (.ret))
 (.skip)))
 (.seq (.region [I 11 (.mv) [T 0],
   I 12 (.nilCheck) [T 11],
   I 13 (.fieldAddr 1) [T 12],
   I 14 (.load1) [T 13],
   I 15 (.lens) [T 14],
   I 5 (.mv) [T 15]])
 (.seq (.region [I 6 (.mv) [.lit .nilsl]])
 (.seq (.seq (.region [I 16 (.mv) [T 0],
   I 17 (.nilCheck) [T 16],
   I 18 (.fieldAddr 1) [T 17],
   I 19 (.load1) [T 18],
   I 20 (.lens) [T 19],
   I 21 (.mv) [N 0]])
 (.block 0 (.loop c_tlb_Table_drop_L0)))
 (.seq (.region [I 38 (.mv) [T 0],
   I 39 (.mv) [T 6],
   I 40 (.nilCheck) [T 38],
   I 41 (.fieldAddr 1) [T 40],
   J (.store 1) [T 41, T 39]])
 (.seq (.region [I 42 (.mv) [T 5],
   I 43 (.mv) [T 6],
   I 44 (.lens) [T 43],
   I 45 (.bin .sub) [T 42, T 44],
   I 4 (.mv) [T 45]])
 (.ret)))))))⟩
theorem t182 : trFn Tryz.prog Tryz.f182 = some c_tlb_Table_drop := by kernel_rfl
/-- (*pantry/frames.Pool).Own -/
abbrev n_frames_Pool_Own : Nat := 186
def c_frames_Pool_Own : AFn := ⟨15, [.tmp 10],
 .seq (.region [I 7 (.box 3 1) [T 2],
   I 8 (.box 3 1) [T 3],
   I 9 (.box 3 1) [T 4],
   I 10 (.mv) [N 0]])
 (.seq (.region [I 11 (.mv) [T 0],
   I 12 (.mv) [T 1],
   I 13 (.mkfunc 291 0) [T 7, T 8, T 9],
   I 14 (.callv) [F 131, T 11, T 12, T 13],
   I 10 (.mv) [T 14]])
 (.ret))⟩
theorem t186 : trFn Tryz.prog Tryz.f186 = some c_frames_Pool_Own := by kernel_rfl
/-- (*pantry/slots.Slots).Take -/
abbrev n_slots_Slots_Take : Nat := 188
def c_slots_Slots_Take : AFn := ⟨8, [.tmp 2, .tmp 3],
 .seq (.region [I 2 (.mv) [N 0],
   I 3 (.mv) [.lit (.bool false)]])
 (.seq (.region [I 4 (.mv) [T 0],
   I 5 (.callv) [F 292, T 4, N 1],
   I 6 (.extract 0) [T 5],
   I 7 (.extract 1) [T 5],
   I 2 (.mv) [T 6],
   I 3 (.mv) [T 7]])
 (.ret))⟩
theorem t188 : trFn Tryz.prog Tryz.f188 = some c_slots_Slots_Take := by kernel_rfl
/-- (*pantry/swap.Device).Write -/
abbrev n_swap_Device_Write : Nat := 189
def c_swap_Device_Write : AFn := ⟨29, [.tmp 6],
 .seq (.region [I 6 (.mv) [N 0]])
 (.seq (.seq (.region [I 8 (.mv) [T 0],
   I 9 (.mv) [T 1],
   I 10 (.mv) [T 2],
   I 11 (.lens) [T 10],
   I 12 (.bin .eql) [T 11, N 4096],
   I 13 (.callv) [F 218, T 8, T 9, T 12],
   I 7 (.mv) [T 13]])
 (.seq (.region [I 14 (.mv) [T 7],
   I 15 (.bin .neq) [T 14, N 0]])
 (.cond (T 15)
 (.seq (.region [I 16 (.mv) [T 7],
    I 6 (.mv) [T 16]])
  (.ret))
 (.skip))))
 (.seq (.seq (.region [I 17 (.mv) [T 0],
   I 18 (.nilCheck) [T 17],
   I 19 (.fieldAddr 3) [T 18],
   I 20 (.callv) [F 293, T 19]])
 (.cond (T 20)
 (.seq (.region [I 6 (.mv) [N 6]])
  (.ret))
 (.skip)))
 (.seq (.draw [[⟨0, I 21 (.mv) [T 0], [], false⟩,
   ⟨1, I 22 (.nilCheck) [T 21], [], false⟩,
   ⟨2, I 23 (.fieldAddr 2) [T 22], [], false⟩,
   ⟨3, I 24 (.load1) [T 23], [], false⟩,
   ⟨4, I 25 (.mv) [T 1], [], false⟩,
   ⟨5, I 26 (.mv) [T 2], [], false⟩,
   ⟨6, I 27 (.sl2arr 4096) [T 26], [], false⟩,
   ⟨7, I 28 (.loadn 4096) [T 27], [], false⟩,
   ⟨8, J (.mapput (.scal .int)) [T 24, T 25, T 28], [], false⟩]])
 (.seq (.region [I 6 (.mv) [N 0]])
 (.ret)))))⟩
theorem t189 : trFn Tryz.prog Tryz.f189 = some c_swap_Device_Write := by kernel_rfl
/-- (*pantry/anon.Pool).change -/
abbrev n_anon_Pool_change : Nat := 191
def c_anon_Pool_change : AFn := ⟨53, [.cell 6 (.loadn 3), .tmp 7],
 .seq (.region [I 6 (.alloc 103 3 (.vals [(.int .i64 0), (.int .i64 0), (.int .i64 0)])) [],
   I 7 (.mv) [N 0]])
 (.seq (.seq (.region [I 11 (.mv) [T 0],
   I 12 (.callv) [F 123, T 11],
   I 13 (.un .not) [T 12]])
 (.cond (T 13)
 (.seq (.region [I 14 (.build (.agg [(.int .i64 0), (.int .i64 0), (.int .i64 0)]) []) [],
    J (.store 3) [T 6, T 14],
    I 7 (.mv) [N 1]])
  (.ret))
 (.skip)))
 (.seq (.region [I 16 (.mv) [T 0],
   I 17 (.nilCheck) [T 16],
   I 18 (.fieldAddr 2) [T 17],
   I 19 (.load1) [T 18],
   I 20 (.mv) [T 1],
   I 21 (.lookup (.scal .int) (.agg [(.int .i64 0), (.int .i64 0), (.int .i64 0)]) true) [T 19, T 20],
   I 15 (.mv) [T 21],
   I 22 (.extract 0) [T 15],
   I 23 (.extract 1) [T 15],
   I 8 (.alloc 103 3 (.vals [(.int .i64 0), (.int .i64 0), (.int .i64 0)])) [],
   J (.store 3) [T 8, T 22],
   I 9 (.mv) [T 23]])
 (.seq (.seq (.region [I 24 (.mv) [T 9],
   I 25 (.un .not) [T 24]])
 (.cond (T 25)
 (.seq (.region [I 26 (.build (.agg [(.int .i64 0), (.int .i64 0), (.int .i64 0)]) []) [],
    J (.store 3) [T 6, T 26],
    I 7 (.mv) [N 7]])
  (.ret))
 (.skip)))
 (.seq (.seq (.region [I 27 (.mv) [T 2],
   I 28 (.callv) [T 27, T 8],
   I 10 (.mv) [T 28]])
 (.seq (.region [I 29 (.mv) [T 10],
   I 30 (.bin .neq) [T 29, N 0]])
 (.cond (T 30)
 (.seq (.region [I 31 (.build (.agg [(.int .i64 0), (.int .i64 0), (.int .i64 0)]) []) [],
    I 32 (.mv) [T 10],
    J (.store 3) [T 6, T 31],
    I 7 (.mv) [T 32]])
  (.ret))
 (.skip))))
 (.seq (.draw [[⟨0, I 33 (.mv) [T 0], [], false⟩,
   ⟨1, I 34 (.nilCheck) [T 33], [], false⟩,
   ⟨2, I 35 (.fieldAddr 2) [T 34], [], false⟩,
   ⟨3, I 36 (.load1) [T 35], [], false⟩,
   ⟨4, I 37 (.mv) [T 1], [], false⟩,
   ⟨5, I 38 (.loadn 3) [T 8], [], false⟩,
   ⟨6, J (.mapput (.scal .int)) [T 36, T 37, T 38], [], false⟩]])
 (.seq (.seq (.region [I 39 (.fieldAddr 0) [T 8],
   I 40 (.load1) [T 39],
   I 41 (.bin .eql) [T 40, N 0]])
 (.cond (T 41)
 (.seq (.region [I 42 (.mv) [T 0],
    I 43 (.nilCheck) [T 42],
    I 44 (.fieldAddr 2) [T 43],
    I 45 (.load1) [T 44],
    I 46 (.mv) [T 1],
    J (.delete (.scal .int)) [T 45, T 46]])
  (.region [I 47 (.mv) [T 0],
    I 48 (.nilCheck) [T 47],
    I 49 (.fieldAddr 3) [T 48],
    I 50 (.mv) [T 1],
    I 51 (.callv) [F 295, T 49, T 50]]))
 (.skip)))
 (.seq (.region [I 52 (.loadn 3) [T 8],
   J (.store 3) [T 6, T 52],
   I 7 (.mv) [N 0]])
 (.ret))))))))⟩
theorem t191 : trFn Tryz.prog Tryz.f191 = some c_anon_Pool_change := by kernel_rfl
/-- (*pantry/anon.Pool).Put$1 -/
abbrev n_anon_Pool_Put_1 : Nat := 192
def c_anon_Pool_Put_1 : AFn := ⟨13, [.tmp 4],
 .seq (.region [I 4 (.mv) [N 0]])
 (.seq (.draw [[⟨0, I 5 (.mv) [T 0], [], false⟩,
   ⟨1, I 6 (.mv) [T 0], [], false⟩,
   ⟨2, I 7 (.load1) [T 1], [], false⟩,
   ⟨3, I 8 (.load1) [T 2], [], false⟩,
   ⟨4, I 9 (.nilCheck) [T 5], [], false⟩,
   ⟨5, I 10 (.fieldAddr 1) [T 9], [], false⟩,
   ⟨6, J (.store 1) [T 10, T 7], [(3, I 8 (.load1) [T 2])], false⟩,
   ⟨7, I 11 (.nilCheck) [T 6], [], false⟩,
   ⟨8, I 12 (.fieldAddr 2) [T 11], [], false⟩,
   ⟨9, J (.store 1) [T 12, T 8], [], false⟩]])
 (.seq (.region [I 4 (.mv) [N 0]])
 (.ret)))⟩
theorem t192 : trFn Tryz.prog Tryz.f192 = some c_anon_Pool_Put_1 := by kernel_rfl
/-- (*pantry/frames.Pool).Give$1 -/
abbrev n_frames_Pool_Give_1 : Nat := 193
def c_frames_Pool_Give_1 : AFn := ⟨18, [.tmp 2],
 .seq (.region [I 2 (.mv) [N 0]])
 (.seq (.seq (.region [I 3 (.mv) [T 0],
   I 4 (.nilCheck) [T 3],
   I 5 (.fieldAddr 3) [T 4],
   I 6 (.load1) [T 5],
   I 7 (.bin .neq) [T 6, N 0],
   I 8 (.mv) [T 7],
   IG 9 (.mv) [T 0] 8 false,
   IG 10 (.nilCheck) [T 9] 8 false,
   IG 11 (.fieldAddr 4) [T 10] 8 false,
   IG 12 (.load1) [T 11] 8 false,
   IG 13 (.bin .neq) [T 12, N 0] 8 false,
   I 14 (.pick) [T 8, .lit (.bool true), T 13]])
 (.cond (T 14)
 (.seq (.region [I 2 (.mv) [N 8]])
  (.ret))
 (.skip)))
 (.seq (.region [I 15 (.mv) [T 0],
   I 16 (.build (.agg [(.int .i64 0), (.int .i64 0), (.int .i64 0), (.int .i64 0), (.int .i64 0)]) []) [],
   I 17 (.nilCheck) [T 15],
   J (.store 5) [T 17, T 16]])
 (.seq (.region [I 2 (.mv) [N 0]])
 (.ret))))⟩
theorem t193 : trFn Tryz.prog Tryz.f193 = some c_frames_Pool_Give_1 := by kernel_rfl
/-- (*pantry/file.Store).made -/
abbrev n_file_Store_made : Nat := 194
def c_file_Store_made : AFn := ⟨11, [.tmp 2],
 .seq (.region [I 2 (.mv) [.lit (.bool false)]])
 (.seq (.region [I 3 (.mv) [T 0],
   I 4 (.eqv true .ptr) [T 3, .lit .nilptr],
   I 5 (.mv) [T 4],
   IG 6 (.mv) [T 0] 5 true,
   IG 7 (.nilCheck) [T 6] 5 true,
   IG 8 (.fieldAddr 0) [T 7] 5 true,
   IG 9 (.load1) [T 8] 5 true,
   I 10 (.pick) [T 5, T 9, .lit (.bool false)],
   I 2 (.mv) [T 10]])
 (.ret))⟩
theorem t194 : trFn Tryz.prog Tryz.f194 = some c_file_Store_made := by kernel_rfl
/-- (*pantry/frames.Pool).Count -/
abbrev n_frames_Pool_Count : Nat := 195
/-- live: [1, 5, 14, 15, 16] -/
def c_frames_Pool_Count_L0 : ACode :=
 .seq (.region [I 17 (.bin .lss) [T 16, T 15]])
 (.seq (.cond (T 17)
 (.skip)
 (.exit 0))
 (.seq (.block 1 (.seq (.region [I 18 (.indexs 5) [T 14, T 16],
   I 19 (.loadn 5) [T 18],
   I 7 (.alloc 114 5 (.vals [(.int .i64 0), (.int .i64 0), (.int .i64 0), (.int .i64 0), (.int .i64 0)])) [],
   J (.store 5) [T 7, T 19]])
 (.seq (.region [I 20 (.fieldAddr 0) [T 7],
   I 21 (.load1) [T 20],
   I 22 (.mv) [T 1],
   I 23 (.bin .eql) [T 21, T 22]])
 (.cond (T 23)
 (.region [I 24 (.mv) [T 5],
    I 25 (.bin .add) [T 24, N 1],
    I 5 (.mv) [T 25]])
 (.skip)))))
 (.region [I 26 (.bin .add) [T 16, N 1],
   I 16 (.mv) [T 26]])))
def c_frames_Pool_Count : AFn := ⟨28, [.tmp 4],
 .seq (.region [I 4 (.mv) [N 0]])
 (.seq (.seq (.region [I 8 (.mv) [T 0],
   I 9 (.callv) [F 135, T 8],
   I 10 (.un .not) [T 9]])
 (.cond (T 10)
 (.seq (.region [I 4 (.mv) [N 0]])
  (.ret))
 (.skip)))
 (.seq (.region [I 5 (.mv) [N 0]])
 (.seq (.seq (.region [I 11 (.mv) [T 0],
   I 12 (.nilCheck) [T 11],
   I 13 (.fieldAddr 0) [T 12],
   I 14 (.load1) [T 13],
   I 15 (.lens) [T 14],
   I 16 (.mv) [N 0]])
 (.block 0 (.loop c_frames_Pool_Count_L0)))
 (.seq (.region [I 27 (.mv) [T 5],
   I 4 (.mv) [T 27]])
 (.ret)))))⟩
theorem t195 : trFn Tryz.prog Tryz.f195 = some c_frames_Pool_Count := by kernel_rfl
/-- maps.Keys[map[int]*pantry/kern.proc,int,*pantry/kern.proc]$1 -/
abbrev n_maps_Keys_map_int_kern_proc_int_kern_proc_1 : Nat := 196
/-- live: [0, 5] -/
def c_maps_Keys_map_int_kern_proc_int_kern_proc_1_L0 : ACode :=
 .seq (.region [I 6 (.next) [T 5],
   I 7 (.extract 0) [T 6]])
 (.seq (.cond (T 7)
 (.skip)
 (.exit 0))
 (.block 1 (.seq (.region [I 8 (.entry) [T 5],
   I 9 (.extract 0) [T 8],
   I 3 (.mv) [T 9]])
 (.seq (.region [I 10 (.mv) [T 0],
   I 11 (.mv) [T 3],
   I 12 (.callv) [T 10, T 11],
   I 13 (.un .not) [T 12]])
 (.cond (T 13)
 (.ret)
 (.skip))))))
def c_maps_Keys_map_int_kern_proc_int_kern_proc_1 : AFn := ⟨14, [],
 .seq (.region [I 4 (.load1) [T 1],
   I 5 (.range) [T 4]])
 (.block 0 (.loop c_maps_Keys_map_int_kern_proc_int_kern_proc_1_L0))⟩
theorem t196 : trFn Tryz.prog Tryz.f196 = some c_maps_Keys_map_int_kern_proc_int_kern_proc_1 := by kernel_rfl
/-- slices.Clone[[]pantry/api.Entry,pantry/api.Entry] -/
abbrev n_slices_Clone_api_Entry_api_Entry : Nat := 197
def c_slices_Clone_api_Entry_api_Entry : AFn := ⟨8, [.tmp 2],
 .seq (.region [I 2 (.mv) [.lit .nilsl]])
 (.seq (.seq (.region [I 3 (.mv) [T 0],
   I 4 (.eqv false .slice) [T 3, .lit .nilsl]])
 (.cond (T 4)
 (.seq (.region [I 2 (.mv) [.lit .nilsl]])
  (.ret))
 (.skip)))
 (.seq (.region [I 5 (.bslice 94 10 0 (.vals [(.int .i64 0), (.int .i64 0), (.int .i64 0), (.int .i64 0), (.bool false), (.int .i64 0), (.int .i64 0), (.int .i64 0), (.int .i64 0), (.bool false)]) []) [],
   I 6 (.mv) [T 0],
   I 7 (.append 94 10 80 (.vals [(.int .i64 0), (.int .i64 0), (.int .i64 0), (.int .i64 0), (.bool false), (.int .i64 0), (.int .i64 0), (.int .i64 0), (.int .i64 0), (.bool false)])) [T 5, T 6],
   I 2 (.mv) [T 7]])
 (.ret)))⟩
theorem t197 : trFn Tryz.prog Tryz.f197 = some c_slices_Clone_api_Entry_api_Entry := by kernel_rfl
/-- slices.ContainsFunc[[]int,int] -/
abbrev n_slices_ContainsFunc_int_int : Nat := 199
def c_slices_ContainsFunc_int_int : AFn := ⟨9, [.tmp 4],
 .seq (.region [I 4 (.mv) [.lit (.bool false)]])
 (.seq (.region [I 5 (.mv) [T 0],
   I 6 (.mv) [T 1],
   I 7 (.callv) [F 296, T 5, T 6],
   I 8 (.bin .geq) [T 7, N 0],
   I 4 (.mv) [T 8]])
 (.ret))⟩
theorem t199 : trFn Tryz.prog Tryz.f199 = some c_slices_ContainsFunc_int_int := by kernel_rfl
/-- pantry/pmap.New -/
abbrev n_pmap_New : Nat := 200
def c_pmap_New : AFn := ⟨31, [.tmp 6, .tmp 7],
 .seq (.region [I 6 (.mv) [.lit .nilptr],
   I 7 (.mv) [N 0]])
 (.seq (.seq (.region [I 10 (.mv) [T 0],
   I 11 (.callv) [F 58, T 10],
   I 12 (.bin .eql) [T 11, N 0]])
 (.cond (T 12)
 (.seq (.region [I 6 (.mv) [.lit .nilptr],
    I 7 (.mv) [N 1]])
  (.ret))
 (.skip)))
 (.seq (.region [I 14 (.mv) [T 1],
   I 15 (.mv) [T 2],
   I 16 (.callv) [F 297, T 14, N 1, T 15, N 0],
   I 13 (.mv) [T 16],
   I 17 (.extract 0) [T 13],
   I 18 (.extract 1) [T 13],
   I 8 (.mv) [T 17],
   I 9 (.mv) [T 18]])
 (.seq (.seq (.region [I 19 (.mv) [T 9],
   I 20 (.bin .neq) [T 19, N 0]])
 (.cond (T 20)
 (.seq (.region [I 21 (.mv) [T 9],
    I 6 (.mv) [.lit .nilptr],
    I 7 (.mv) [T 21]])
  (.ret))
 (.skip)))
 (.seq (.region [I 22 (.mv) [T 0],
   I 23 (.mv) [T 8],
   I 24 (.callv) [F 245, T 22, T 23]])
 (.seq (.region [I 25 (.mv) [T 0],
   I 26 (.mv) [T 1],
   I 27 (.mv) [T 2],
   I 28 (.mv) [T 8],
   I 29 (.build (.agg [.nilptr, .nilptr, (.int .i64 0), (.int .i64 0), (.int .i64 0)]) [(0, 1), (1, 1), (2, 1), (3, 1), (4, 1)]) [T 25, T 26, T 27, T 28, N 1],
   I 30 (.box 227 5) [T 29],
   I 6 (.mv) [T 30],
   I 7 (.mv) [N 0]])
 (.ret))))))⟩
theorem t200 : trFn Tryz.prog Tryz.f200 = some c_pmap_New := by kernel_rfl
/-- pantry/vmap.New -/
abbrev n_vmap_New : Nat := 201
def c_vmap_New : AFn := ⟨3, [.tmp 0],
 .seq (.region [I 0 (.mv) [.lit .nilptr]])
 (.seq (.region [I 1 (.build (.agg [.nilsl, (.bool false)]) [(1, 1)]) [.lit (.bool true)],
   I 2 (.box 184 2) [T 1],
   I 0 (.mv) [T 2]])
 (.ret))⟩
theorem t201 : trFn Tryz.prog Tryz.f201 = some c_vmap_New := by kernel_rfl
/-- slices.AppendSeq[[]int,int] -/
abbrev n_slices_AppendSeq_int_int : Nat := 202
/-- live: [2] -/
def c_slices_AppendSeq_int_int_A0 : ACode :=
 .region [I 5 (.mv) [T 7]]
def c_slices_AppendSeq_int_int_B0 : ACode :=
 .block 1 (.region [I 8 (.load1) [T 2],
   I 9 (.mv) [T 5],
   I 10 (.bslice 3 1 1 (.vals [(.int .i64 0)]) [0]) [T 9],
   I 11 (.append 3 1 8 (.vals [(.int .i64 0)])) [T 8, T 10],
   J (.store 1) [T 2, T 11]])
def c_slices_AppendSeq_int_int : AFn := ⟨13, [.tmp 4],
 .seq (.region [I 2 (.box 34 1) [T 0],
   I 4 (.mv) [.lit .nilsl]])
 (.seq (.seq (.region [I 6 (.mv) [T 1]])
 (.block 0 (.rfun (T 6) [7] c_slices_AppendSeq_int_int_A0 c_slices_AppendSeq_int_int_B0)))
 (.seq (.region [I 12 (.load1) [T 2],
   I 4 (.mv) [T 12]])
 (.ret)))⟩
theorem t202 : trFn Tryz.prog Tryz.f202 = some c_slices_AppendSeq_int_int := by kernel_rfl
/-- slices.pdqsortOrdered[int] -/
abbrev n_slices_pdqsortOrdered_int : Nat := 203
end Go.Proofs.YtljemfeohhgncaaGreat
