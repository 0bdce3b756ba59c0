/- LoanShares: runs by the kernel. -/
import Derived.Test.YtlkfclgkinaibaaGreatZLST7
namespace Go.Proofs.YtlkfclgkinaibaaGreat
theorem dsT10 (N v : Nat) : GoodT 10 N v := by
  unfold GoodT
  kernel_rfl
theorem dsT11 (N v : Nat) : GoodT 11 N v := by
  unfold GoodT
  kernel_rfl
theorem dsT12 (N v : Nat) : GoodT 12 N v := by
  unfold GoodT
  kernel_rfl
theorem dsT13 (N v : Nat) : GoodT 13 N v := by
  unfold GoodT
  kernel_rfl
theorem dsT14 (N v : Nat) : GoodT 14 N v := by
  unfold GoodT
  kernel_rfl
theorem dsT15 (N v : Nat) : GoodT 15 N v := by
  unfold GoodT
  kernel_rfl
theorem dsT16 (N v : Nat) : GoodT 16 N v := by
  unfold GoodT
  kernel_rfl
theorem dsT17 (N v : Nat) : GoodT 17 N v := by
  unfold GoodT
  kernel_rfl
theorem dsT18 (N v : Nat) : GoodT 18 N v := by
  unfold GoodT
  kernel_rfl
theorem dsT19 (N v : Nat) : GoodT 19 N v := by
  unfold GoodT
  kernel_rfl
theorem dsT20 (N v : Nat) : GoodT 20 N v := by
  unfold GoodT
  kernel_rfl
theorem dsT21 (N v : Nat) : GoodT 21 N v := by
  unfold GoodT
  kernel_rfl
theorem dsT22 (N v : Nat) : GoodT 22 N v := by
  unfold GoodT
  kernel_rfl
theorem dsT23 (N v : Nat) : GoodT 23 N v := by
  unfold GoodT
  kernel_rfl
theorem dsT24 (N v : Nat) : GoodT 24 N v := by
  unfold GoodT
  kernel_rfl
theorem dsT25 (N v : Nat) : GoodT 25 N v := by
  unfold GoodT
  kernel_rfl
end Go.Proofs.YtlkfclgkinaibaaGreat
