/- KernCopies: runs by the kernel. -/
import Derived.Test.YtlkfclgkinaibaaGreatZKCT8
namespace Go.Proofs.YtlkfclgkinaibaaGreat
theorem dsB11_3 : okB H11 11 3 3 = true := by kernel_rfl
end Go.Proofs.YtlkfclgkinaibaaGreat
