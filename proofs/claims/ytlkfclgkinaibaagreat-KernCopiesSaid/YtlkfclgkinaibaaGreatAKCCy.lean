/- KernCopies: runs by the kernel. -/
import Derived.Test.YtlkfclgkinaibaaGreatZKCT8
namespace Go.Proofs.YtlkfclgkinaibaaGreat
theorem dsB10_3 : okB H10 10 3 3 = true := by kernel_rfl
end Go.Proofs.YtlkfclgkinaibaaGreat
