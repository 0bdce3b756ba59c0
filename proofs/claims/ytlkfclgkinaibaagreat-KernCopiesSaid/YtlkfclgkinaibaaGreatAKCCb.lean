/- KernCopies: runs by the kernel. -/
import Derived.Test.YtlkfclgkinaibaaGreatZKCT8
namespace Go.Proofs.YtlkfclgkinaibaaGreat
theorem dsA7 (keep : Nat) : GoodA 7 keep H7 9308 := by
  unfold GoodA
  kernel_rfl
end Go.Proofs.YtlkfclgkinaibaaGreat
