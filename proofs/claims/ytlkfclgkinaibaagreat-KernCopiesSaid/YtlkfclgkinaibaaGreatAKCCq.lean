/- KernCopies: runs by the kernel. -/
import Derived.Test.YtlkfclgkinaibaaGreatZKCT8
namespace Go.Proofs.YtlkfclgkinaibaaGreat
theorem dsB7_6 : okB H7 7 6 1 = true := by kernel_rfl
end Go.Proofs.YtlkfclgkinaibaaGreat
