/- LoanShares: runs by the kernel. -/
import Derived.Test.YtlkfclgkinaibaaGreatZLST7
namespace Go.Proofs.YtlkfclgkinaibaaGreat
theorem dsT26 (N v : Nat) : GoodT 26 N v := by
  unfold GoodT
  kernel_rfl
theorem dsT27 (N v : Nat) : GoodT 27 N v := by
  unfold GoodT
  kernel_rfl
theorem dsT28 (N v : Nat) : GoodT 28 N v := by
  unfold GoodT
  kernel_rfl
theorem dsT29 (N v : Nat) : GoodT 29 N v := by
  unfold GoodT
  kernel_rfl
theorem dsT30 (N v : Nat) : GoodT 30 N v := by
  unfold GoodT
  kernel_rfl
theorem dsT31 (N v : Nat) : GoodT 31 N v := by
  unfold GoodT
  kernel_rfl
theorem dsT32 (N v : Nat) : GoodT 32 N v := by
  unfold GoodT
  kernel_rfl
theorem dsT33 (N v : Nat) : GoodT 33 N v := by
  unfold GoodT
  kernel_rfl
theorem dsT34 (N v : Nat) : GoodT 34 N v := by
  unfold GoodT
  kernel_rfl
theorem dsT35 (N v : Nat) : GoodT 35 N v := by
  unfold GoodT
  kernel_rfl
theorem dsT36 (N v : Nat) : GoodT 36 N v := by
  unfold GoodT
  kernel_rfl
end Go.Proofs.YtlkfclgkinaibaaGreat
