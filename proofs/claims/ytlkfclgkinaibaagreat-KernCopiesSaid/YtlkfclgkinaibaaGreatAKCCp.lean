/- KernCopies: runs by the kernel. -/
import Derived.Test.YtlkfclgkinaibaaGreatZKCT8
namespace Go.Proofs.YtlkfclgkinaibaaGreat
theorem dsB7_3 : okB H7 7 3 3 = true := by kernel_rfl
end Go.Proofs.YtlkfclgkinaibaaGreat
