/- KernCopies: runs by the kernel. -/
import Derived.Test.YtlkfclgkinaibaaGreatZKCT8
namespace Go.Proofs.YtlkfclgkinaibaaGreat
theorem dsB8_6 : okB H8 8 6 2 = true := by kernel_rfl
end Go.Proofs.YtlkfclgkinaibaaGreat
