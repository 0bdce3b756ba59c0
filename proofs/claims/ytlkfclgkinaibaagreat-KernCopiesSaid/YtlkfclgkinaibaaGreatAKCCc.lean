/- KernCopies: runs by the kernel. -/
import Derived.Test.YtlkfclgkinaibaaGreatZKCT8
namespace Go.Proofs.YtlkfclgkinaibaaGreat
theorem dsA8 (keep : Nat) : GoodA 8 keep H8 9723 := by
  unfold GoodA
  kernel_rfl
end Go.Proofs.YtlkfclgkinaibaaGreat
