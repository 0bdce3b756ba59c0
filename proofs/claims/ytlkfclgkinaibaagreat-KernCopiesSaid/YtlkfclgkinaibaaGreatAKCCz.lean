/- KernCopies: runs by the kernel. -/
import Derived.Test.YtlkfclgkinaibaaGreatZKCT8
namespace Go.Proofs.YtlkfclgkinaibaaGreat
theorem dsB10_6 : okB H10 10 6 3 = true := by kernel_rfl
end Go.Proofs.YtlkfclgkinaibaaGreat
