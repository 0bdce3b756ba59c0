/- LoanShares: runs by the kernel. -/
import Derived.Test.YtlkfclgkinaibaaGreatZLST7
namespace Go.Proofs.YtlkfclgkinaibaaGreat
theorem dsT37 (N v : Nat) : GoodT 37 N v := by
  unfold GoodT
  kernel_rfl
theorem dsT38 (N v : Nat) : GoodT 38 N v := by
  unfold GoodT
  kernel_rfl
theorem dsT39 (N v : Nat) : GoodT 39 N v := by
  unfold GoodT
  kernel_rfl
theorem dsT40 (N v : Nat) : GoodT 40 N v := by
  unfold GoodT
  kernel_rfl
end Go.Proofs.YtlkfclgkinaibaaGreat
