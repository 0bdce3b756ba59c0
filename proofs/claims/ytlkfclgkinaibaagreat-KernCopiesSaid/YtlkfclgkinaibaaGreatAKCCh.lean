/- KernCopies: runs by the kernel. -/
import Derived.Test.YtlkfclgkinaibaaGreatZKCT8
namespace Go.Proofs.YtlkfclgkinaibaaGreat
theorem dsB1_0 : okB H1 1 0 1 = true := by kernel_rfl
theorem dsB2_0 : okB H2 2 0 2 = true := by kernel_rfl
end Go.Proofs.YtlkfclgkinaibaaGreat
