/- DaemonSpares: runs by the kernel. -/
import Derived.Test.YtlkfclgkinaibaaGreatZKDT8
namespace Go.Proofs.YtlkfclgkinaibaaGreat
theorem dsB10_0 : okB H10 10 0 1 = true := by kernel_rfl
theorem dsB10_1 : okB H10 10 1 1 = true := by kernel_rfl
end Go.Proofs.YtlkfclgkinaibaaGreat
