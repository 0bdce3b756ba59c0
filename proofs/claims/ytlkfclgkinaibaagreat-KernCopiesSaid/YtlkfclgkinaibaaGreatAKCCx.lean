/- KernCopies: runs by the kernel. -/
import Derived.Test.YtlkfclgkinaibaaGreatZKCT8
namespace Go.Proofs.YtlkfclgkinaibaaGreat
theorem dsB10_0 : okB H10 10 0 3 = true := by kernel_rfl
end Go.Proofs.YtlkfclgkinaibaaGreat
