/- KernCopies: runs by the kernel. -/
import Derived.Test.YtlkfclgkinaibaaGreatZKCT8
namespace Go.Proofs.YtlkfclgkinaibaaGreat
theorem dsB6_3 : okB H6 6 3 3 = true := by kernel_rfl
end Go.Proofs.YtlkfclgkinaibaaGreat
