/- KernCopies: runs by the kernel. -/
import Derived.Test.YtlkfclgkinaibaaGreatZKCT8
namespace Go.Proofs.YtlkfclgkinaibaaGreat
theorem dsB4_0 : okB H4 4 0 3 = true := by kernel_rfl
theorem dsB4_3 : okB H4 4 3 1 = true := by kernel_rfl
end Go.Proofs.YtlkfclgkinaibaaGreat
