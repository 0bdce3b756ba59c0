/- KernCopies: runs by the kernel. -/
import Derived.Test.YtlkfclgkinaibaaGreatZKCT8
namespace Go.Proofs.YtlkfclgkinaibaaGreat
theorem dsB5_3 : okB H5 5 3 2 = true := by kernel_rfl
end Go.Proofs.YtlkfclgkinaibaaGreat
