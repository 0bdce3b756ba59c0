/- KernCopies: runs by the kernel. -/
import Derived.Test.YtlkfclgkinaibaaGreatZKCT8
namespace Go.Proofs.YtlkfclgkinaibaaGreat
theorem dsB9_6 : okB H9 9 6 3 = true := by kernel_rfl
end Go.Proofs.YtlkfclgkinaibaaGreat
