/- KernCopies: runs by the kernel. -/
import Derived.Test.YtlkfclgkinaibaaGreatZKCT8
namespace Go.Proofs.YtlkfclgkinaibaaGreat
theorem dsB3_0 : okB H3 3 0 3 = true := by kernel_rfl
end Go.Proofs.YtlkfclgkinaibaaGreat
