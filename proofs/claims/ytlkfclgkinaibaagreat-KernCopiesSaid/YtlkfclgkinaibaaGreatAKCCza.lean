/- KernCopies: runs by the kernel. -/
import Derived.Test.YtlkfclgkinaibaaGreatZKCT8
namespace Go.Proofs.YtlkfclgkinaibaaGreat
theorem dsB10_9 : okB H10 10 9 1 = true := by kernel_rfl
end Go.Proofs.YtlkfclgkinaibaaGreat
