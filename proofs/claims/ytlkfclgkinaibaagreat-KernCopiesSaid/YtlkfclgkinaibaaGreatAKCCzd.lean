/- KernCopies: runs by the kernel. -/
import Derived.Test.YtlkfclgkinaibaaGreatZKCT8
namespace Go.Proofs.YtlkfclgkinaibaaGreat
theorem dsB11_6 : okB H11 11 6 3 = true := by kernel_rfl
end Go.Proofs.YtlkfclgkinaibaaGreat
