/- KernCopies: runs by the kernel. -/
import Derived.Test.YtlkfclgkinaibaaGreatZKCT8
namespace Go.Proofs.YtlkfclgkinaibaaGreat
theorem dsB8_3 : okB H8 8 3 3 = true := by kernel_rfl
end Go.Proofs.YtlkfclgkinaibaaGreat
