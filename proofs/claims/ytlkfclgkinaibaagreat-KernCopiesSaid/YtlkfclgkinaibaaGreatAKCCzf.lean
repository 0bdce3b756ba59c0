/- KernCopies: runs by the kernel. -/
import Derived.Test.YtlkfclgkinaibaaGreatZKCT8
namespace Go.Proofs.YtlkfclgkinaibaaGreat
theorem dsB12_0 : okB H12 12 0 3 = true := by kernel_rfl
end Go.Proofs.YtlkfclgkinaibaaGreat
