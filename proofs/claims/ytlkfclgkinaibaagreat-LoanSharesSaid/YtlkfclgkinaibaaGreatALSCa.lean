/- LoanShares: runs by the kernel. -/
import Derived.Test.YtlkfclgkinaibaaGreatZLST7
namespace Go.Proofs.YtlkfclgkinaibaaGreat
theorem gdA (n v : Nat) : GoodA n v := by
  unfold GoodA
  kernel_rfl
theorem gdC (n v m : Nat) : GoodC n v m := by
  unfold GoodC
  kernel_rfl
theorem dsD0 (n v d : Nat) : Round (runD (outH (runC n v (d + 1))) 1 (d + 1) v) 1 (d + 1) v := by
  unfold Round
  kernel_rfl
theorem gdF : okFree 1 40 = true := by kernel_rfl
theorem dsD1 (d v : Nat) : Round (runD (HL 1) (1 + 1) (d + 2) v) (1 + 1) (d + 2) v := by
  unfold Round
  kernel_rfl
theorem dsD2 (d v : Nat) : Round (runD (HL 2) (2 + 1) (d + 3) v) (2 + 1) (d + 3) v := by
  unfold Round
  kernel_rfl
theorem dsD3 (d v : Nat) : Round (runD (HL 3) (3 + 1) (d + 4) v) (3 + 1) (d + 4) v := by
  unfold Round
  kernel_rfl
theorem dsD4 (d v : Nat) : Round (runD (HL 4) (4 + 1) (d + 5) v) (4 + 1) (d + 5) v := by
  unfold Round
  kernel_rfl
theorem dsD5 (d v : Nat) : Round (runD (HL 5) (5 + 1) (d + 6) v) (5 + 1) (d + 6) v := by
  unfold Round
  kernel_rfl
theorem dsD6 (d v : Nat) : Round (runD (HL 6) (6 + 1) (d + 7) v) (6 + 1) (d + 7) v := by
  unfold Round
  kernel_rfl
theorem dsD7 (d v : Nat) : Round (runD (HL 7) (7 + 1) (d + 8) v) (7 + 1) (d + 8) v := by
  unfold Round
  kernel_rfl
theorem dsD8 (d v : Nat) : Round (runD (HL 8) (8 + 1) (d + 9) v) (8 + 1) (d + 9) v := by
  unfold Round
  kernel_rfl
theorem dsD9 (d v : Nat) : Round (runD (HL 9) (9 + 1) (d + 10) v) (9 + 1) (d + 10) v := by
  unfold Round
  kernel_rfl
theorem dsD10 (d v : Nat) : Round (runD (HL 10) (10 + 1) (d + 11) v) (10 + 1) (d + 11) v := by
  unfold Round
  kernel_rfl
theorem dsD11 (d v : Nat) : Round (runD (HL 11) (11 + 1) (d + 12) v) (11 + 1) (d + 12) v := by
  unfold Round
  kernel_rfl
theorem dsD12 (d v : Nat) : Round (runD (HL 12) (12 + 1) (d + 13) v) (12 + 1) (d + 13) v := by
  unfold Round
  kernel_rfl
theorem dsD13 (d v : Nat) : Round (runD (HL 13) (13 + 1) (d + 14) v) (13 + 1) (d + 14) v := by
  unfold Round
  kernel_rfl
theorem dsD14 (d v : Nat) : Round (runD (HL 14) (14 + 1) (d + 15) v) (14 + 1) (d + 15) v := by
  unfold Round
  kernel_rfl
theorem dsD15 (d v : Nat) : Round (runD (HL 15) (15 + 1) (d + 16) v) (15 + 1) (d + 16) v := by
  unfold Round
  kernel_rfl
theorem dsD16 (d v : Nat) : Round (runD (HL 16) (16 + 1) (d + 17) v) (16 + 1) (d + 17) v := by
  unfold Round
  kernel_rfl
end Go.Proofs.YtlkfclgkinaibaaGreat
