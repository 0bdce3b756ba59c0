/- BY PROGRAM (wip/tool/shake.py): own texts, one behind the other, without what is not needed. -/
import Derived.Control
import Derived.Calls
import Derived.KernelRfl
import Derived.Laws.Sem
import Derived.Laws.Cells
import Derived.Laws.World
import GoSem.Dispatch
import Derived.Laws.StructEq
import Derived.IntWalk
import Derived.WideKeyRuns
import Derived.Laws.BytesArg
import Derived.Orders
import Derived.ChangeArms
import Derived.OpenShut
import Derived.ChangeShapes
import Derived.ProofKit
import Derived.Test.YtlkfclgkinaibaaGreatProg
import Derived.Test.YtlkfclgkinaibaaGreatZKDT8
import Derived.Test.YtlkfclgkinaibaaGreatADSA
import Derived.Test.YtlkfclgkinaibaaGreatADSB
import Derived.Test.YtlkfclgkinaibaaGreatADSC
import Derived.Test.YtlkfclgkinaibaaGreatADSD
import Derived.Test.YtlkfclgkinaibaaGreatADSE
import Derived.Test.YtlkfclgkinaibaaGreatADSF
import Derived.Test.YtlkfclgkinaibaaGreatADSG
import Derived.Test.YtlkfclgkinaibaaGreatADSW
import Derived.Test.YtlkfclgkinaibaaGreatADSI
import Derived.Test.YtlkfclgkinaibaaGreatADSJ
import Derived.Test.YtlkfclgkinaibaaGreatADSK
import Derived.Test.YtlkfclgkinaibaaGreatADSL
import Derived.Test.YtlkfclgkinaibaaGreatADSM
import Derived.Test.YtlkfclgkinaibaaGreatADSN
import Derived.Test.YtlkfclgkinaibaaGreatADSO
import Derived.Test.YtlkfclgkinaibaaGreatADSP
import Derived.Test.YtlkfclgkinaibaaGreatADSQ
import Derived.Test.YtlkfclgkinaibaaGreatADSR
import Derived.Test.YtlkfclgkinaibaaGreatADSS
import Derived.Test.YtlkfclgkinaibaaGreatADST
import Derived.Test.YtlkfclgkinaibaaGreatADSU
import Derived.Test.YtlkfclgkinaibaaGreatADSV

namespace Go.Proofs.YtlkfclgkinaibaaGreat
theorem dsAll2 {q : Nat} (hq : q < 2) : runB H2 2 q = true := by
  exact okB_of dsB2_0 (by omega) (by omega)
theorem dsAll3 {q : Nat} (hq : q < 3) : runB H3 3 q = true := by
  exact okB_of dsB3_0 (by omega) (by omega)
theorem dsAll4 {q : Nat} (hq : q < 4) : runB H4 4 q = true := by
  exact okB_of dsB4_0 (by omega) (by omega)
theorem dsAll5 {q : Nat} (hq : q < 5) : runB H5 5 q = true := by
  by_cases h0 : q < 3
  · exact okB_of dsB5_0 (by omega) (by omega)
  exact okB_of dsB5_3 (by omega) (by omega)
theorem dsAll6 {q : Nat} (hq : q < 6) : runB H6 6 q = true := by
  by_cases h0 : q < 2
  · exact okB_of dsB6_0 (by omega) (by omega)
  by_cases h1 : q < 4
  · exact okB_of dsB6_2 (by omega) (by omega)
  exact okB_of dsB6_4 (by omega) (by omega)
theorem dsAll7 {q : Nat} (hq : q < 7) : runB H7 7 q = true := by
  by_cases h0 : q < 1
  · exact okB_of dsB7_0 (by omega) (by omega)
  by_cases h1 : q < 2
  · exact okB_of dsB7_1 (by omega) (by omega)
  by_cases h2 : q < 3
  · exact okB_of dsB7_2 (by omega) (by omega)
  by_cases h3 : q < 4
  · exact okB_of dsB7_3 (by omega) (by omega)
  by_cases h4 : q < 5
  · exact okB_of dsB7_4 (by omega) (by omega)
  by_cases h5 : q < 6
  · exact okB_of dsB7_5 (by omega) (by omega)
  exact okB_of dsB7_6 (by omega) (by omega)
theorem dsAll8 {q : Nat} (hq : q < 8) : runB H8 8 q = true := by
  by_cases h0 : q < 1
  · exact okB_of dsB8_0 (by omega) (by omega)
  by_cases h1 : q < 2
  · exact okB_of dsB8_1 (by omega) (by omega)
  by_cases h2 : q < 3
  · exact okB_of dsB8_2 (by omega) (by omega)
  by_cases h3 : q < 4
  · exact okB_of dsB8_3 (by omega) (by omega)
  by_cases h4 : q < 5
  · exact okB_of dsB8_4 (by omega) (by omega)
  by_cases h5 : q < 6
  · exact okB_of dsB8_5 (by omega) (by omega)
  by_cases h6 : q < 7
  · exact okB_of dsB8_6 (by omega) (by omega)
  exact okB_of dsB8_7 (by omega) (by omega)
theorem dsAll9 {q : Nat} (hq : q < 9) : runB H9 9 q = true := by
  by_cases h0 : q < 1
  · exact okB_of dsB9_0 (by omega) (by omega)
  by_cases h1 : q < 2
  · exact okB_of dsB9_1 (by omega) (by omega)
  by_cases h2 : q < 3
  · exact okB_of dsB9_2 (by omega) (by omega)
  by_cases h3 : q < 4
  · exact okB_of dsB9_3 (by omega) (by omega)
  by_cases h4 : q < 5
  · exact okB_of dsB9_4 (by omega) (by omega)
  by_cases h5 : q < 6
  · exact okB_of dsB9_5 (by omega) (by omega)
  by_cases h6 : q < 7
  · exact okB_of dsB9_6 (by omega) (by omega)
  by_cases h7 : q < 8
  · exact okB_of dsB9_7 (by omega) (by omega)
  exact okB_of dsB9_8 (by omega) (by omega)
theorem dsAll10 {q : Nat} (hq : q < 10) : runB H10 10 q = true := by
  by_cases h0 : q < 1
  · exact okB_of dsB10_0 (by omega) (by omega)
  by_cases h1 : q < 2
  · exact okB_of dsB10_1 (by omega) (by omega)
  by_cases h2 : q < 3
  · exact okB_of dsB10_2 (by omega) (by omega)
  by_cases h3 : q < 4
  · exact okB_of dsB10_3 (by omega) (by omega)
  by_cases h4 : q < 5
  · exact okB_of dsB10_4 (by omega) (by omega)
  by_cases h5 : q < 6
  · exact okB_of dsB10_5 (by omega) (by omega)
  by_cases h6 : q < 7
  · exact okB_of dsB10_6 (by omega) (by omega)
  by_cases h7 : q < 8
  · exact okB_of dsB10_7 (by omega) (by omega)
  by_cases h8 : q < 9
  · exact okB_of dsB10_8 (by omega) (by omega)
  exact okB_of dsB10_9 (by omega) (by omega)
theorem dsAll11 {q : Nat} (hq : q < 11) : runB H11 11 q = true := by
  by_cases h0 : q < 1
  · exact okB_of dsB11_0 (by omega) (by omega)
  by_cases h1 : q < 2
  · exact okB_of dsB11_1 (by omega) (by omega)
  by_cases h2 : q < 3
  · exact okB_of dsB11_2 (by omega) (by omega)
  by_cases h3 : q < 4
  · exact okB_of dsB11_3 (by omega) (by omega)
  by_cases h4 : q < 5
  · exact okB_of dsB11_4 (by omega) (by omega)
  by_cases h5 : q < 6
  · exact okB_of dsB11_5 (by omega) (by omega)
  by_cases h6 : q < 7
  · exact okB_of dsB11_6 (by omega) (by omega)
  by_cases h7 : q < 8
  · exact okB_of dsB11_7 (by omega) (by omega)
  by_cases h8 : q < 9
  · exact okB_of dsB11_8 (by omega) (by omega)
  by_cases h9 : q < 10
  · exact okB_of dsB11_9 (by omega) (by omega)
  exact okB_of dsB11_10 (by omega) (by omega)
theorem daemonSpares_all {n keep : Nat} : progI over tab (.f n_law20_DaemonSpares) [.int .u64 (n : Nat), .int .u64 (keep : Nat)] ⟨0, .leaf⟩ fun v _ => v = .bool true := by
  refine daemonSpares_w fun m h1 h2 => ?_
  rcases (by omega : m = 2 ∨ m = 3 ∨ m = 4 ∨ m = 5 ∨ m = 6 ∨ m = 7 ∨ m = 8 ∨ m = 9 ∨ m = 10 ∨ m = 11) with rfl | rfl | rfl | rfl | rfl | rfl | rfl | rfl | rfl | rfl
  · exact ⟨H2, dsA2 keep, fun q hq => dsAll2 hq⟩
  · exact ⟨H3, dsA3 keep, fun q hq => dsAll3 hq⟩
  · exact ⟨H4, dsA4 keep, fun q hq => dsAll4 hq⟩
  · exact ⟨H5, dsA5 keep, fun q hq => dsAll5 hq⟩
  · exact ⟨H6, dsA6 keep, fun q hq => dsAll6 hq⟩
  · exact ⟨H7, dsA7 keep, fun q hq => dsAll7 hq⟩
  · exact ⟨H8, dsA8 keep, fun q hq => dsAll8 hq⟩
  · exact ⟨H9, dsA9 keep, fun q hq => dsAll9 hq⟩
  · exact ⟨H10, dsA10 keep, fun q hq => dsAll10 hq⟩
  · exact ⟨H11, dsA11 keep, fun q hq => dsAll11 hq⟩
end Go.Proofs.YtlkfclgkinaibaaGreat
