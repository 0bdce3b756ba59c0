/- KernCopies: runs by the kernel. -/
import Derived.Test.YtlkfclgkinaibaaGreatZKCT8
namespace Go.Proofs.YtlkfclgkinaibaaGreat
theorem dsB11_9 : okB H11 11 9 2 = true := by kernel_rfl
end Go.Proofs.YtlkfclgkinaibaaGreat
