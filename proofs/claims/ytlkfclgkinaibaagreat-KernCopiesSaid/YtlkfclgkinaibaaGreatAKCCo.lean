/- KernCopies: runs by the kernel. -/
import Derived.Test.YtlkfclgkinaibaaGreatZKCT8
namespace Go.Proofs.YtlkfclgkinaibaaGreat
theorem dsB7_0 : okB H7 7 0 3 = true := by kernel_rfl
end Go.Proofs.YtlkfclgkinaibaaGreat
