/- KernCopies: runs by the kernel. -/
import Derived.Test.YtlkfclgkinaibaaGreatZKCT8
namespace Go.Proofs.YtlkfclgkinaibaaGreat
theorem dsB5_0 : okB H5 5 0 3 = true := by kernel_rfl
end Go.Proofs.YtlkfclgkinaibaaGreat
