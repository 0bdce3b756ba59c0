/- KernCopies: runs by the kernel. -/
import Derived.Test.YtlkfclgkinaibaaGreatZKCT8
namespace Go.Proofs.YtlkfclgkinaibaaGreat
theorem dsB9_0 : okB H9 9 0 3 = true := by kernel_rfl
end Go.Proofs.YtlkfclgkinaibaaGreat
