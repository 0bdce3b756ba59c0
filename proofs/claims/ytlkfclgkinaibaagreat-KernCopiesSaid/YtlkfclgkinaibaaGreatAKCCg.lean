/- KernCopies: runs by the kernel. -/
import Derived.Test.YtlkfclgkinaibaaGreatZKCT8
namespace Go.Proofs.YtlkfclgkinaibaaGreat
theorem dsA12 (keep : Nat) : GoodA 12 keep H12 11393 := by
  unfold GoodA
  kernel_rfl
end Go.Proofs.YtlkfclgkinaibaaGreat
