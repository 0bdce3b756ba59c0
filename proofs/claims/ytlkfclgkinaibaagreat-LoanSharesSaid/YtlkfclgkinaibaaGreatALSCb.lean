/- LoanShares: runs by the kernel. -/
import Derived.Test.YtlkfclgkinaibaaGreatZLST7
namespace Go.Proofs.YtlkfclgkinaibaaGreat
theorem dsD17 (d v : Nat) : Round (runD (HL 17) (17 + 1) (d + 18) v) (17 + 1) (d + 18) v := by
  unfold Round
  kernel_rfl
theorem dsD18 (d v : Nat) : Round (runD (HL 18) (18 + 1) (d + 19) v) (18 + 1) (d + 19) v := by
  unfold Round
  kernel_rfl
theorem dsD19 (d v : Nat) : Round (runD (HL 19) (19 + 1) (d + 20) v) (19 + 1) (d + 20) v := by
  unfold Round
  kernel_rfl
theorem dsD20 (d v : Nat) : Round (runD (HL 20) (20 + 1) (d + 21) v) (20 + 1) (d + 21) v := by
  unfold Round
  kernel_rfl
theorem dsD21 (d v : Nat) : Round (runD (HL 21) (21 + 1) (d + 22) v) (21 + 1) (d + 22) v := by
  unfold Round
  kernel_rfl
theorem dsD22 (d v : Nat) : Round (runD (HL 22) (22 + 1) (d + 23) v) (22 + 1) (d + 23) v := by
  unfold Round
  kernel_rfl
theorem dsD23 (d v : Nat) : Round (runD (HL 23) (23 + 1) (d + 24) v) (23 + 1) (d + 24) v := by
  unfold Round
  kernel_rfl
theorem dsD24 (d v : Nat) : Round (runD (HL 24) (24 + 1) (d + 25) v) (24 + 1) (d + 25) v := by
  unfold Round
  kernel_rfl
theorem dsD25 (d v : Nat) : Round (runD (HL 25) (25 + 1) (d + 26) v) (25 + 1) (d + 26) v := by
  unfold Round
  kernel_rfl
theorem dsD26 (d v : Nat) : Round (runD (HL 26) (26 + 1) (d + 27) v) (26 + 1) (d + 27) v := by
  unfold Round
  kernel_rfl
theorem dsD27 (d v : Nat) : Round (runD (HL 27) (27 + 1) (d + 28) v) (27 + 1) (d + 28) v := by
  unfold Round
  kernel_rfl
theorem dsD28 (d v : Nat) : Round (runD (HL 28) (28 + 1) (d + 29) v) (28 + 1) (d + 29) v := by
  unfold Round
  kernel_rfl
theorem dsD29 (d v : Nat) : Round (runD (HL 29) (29 + 1) (d + 30) v) (29 + 1) (d + 30) v := by
  unfold Round
  kernel_rfl
theorem dsD30 (d v : Nat) : Round (runD (HL 30) (30 + 1) (d + 31) v) (30 + 1) (d + 31) v := by
  unfold Round
  kernel_rfl
theorem dsD31 (d v : Nat) : Round (runD (HL 31) (31 + 1) (d + 32) v) (31 + 1) (d + 32) v := by
  unfold Round
  kernel_rfl
theorem dsD32 (d v : Nat) : Round (runD (HL 32) (32 + 1) (d + 33) v) (32 + 1) (d + 33) v := by
  unfold Round
  kernel_rfl
theorem dsD33 (d v : Nat) : Round (runD (HL 33) (33 + 1) (d + 34) v) (33 + 1) (d + 34) v := by
  unfold Round
  kernel_rfl
theorem dsD34 (d v : Nat) : Round (runD (HL 34) (34 + 1) (d + 35) v) (34 + 1) (d + 35) v := by
  unfold Round
  kernel_rfl
theorem dsD35 (d v : Nat) : Round (runD (HL 35) (35 + 1) (d + 36) v) (35 + 1) (d + 36) v := by
  unfold Round
  kernel_rfl
end Go.Proofs.YtlkfclgkinaibaaGreat
