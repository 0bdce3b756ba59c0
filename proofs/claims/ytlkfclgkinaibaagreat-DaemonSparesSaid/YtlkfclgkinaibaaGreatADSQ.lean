/- DaemonSpares: runs by the kernel. -/
import Derived.Test.YtlkfclgkinaibaaGreatZKDT8
namespace Go.Proofs.YtlkfclgkinaibaaGreat
theorem dsB11_0 : okB H11 11 0 1 = true := by kernel_rfl
theorem dsB11_1 : okB H11 11 1 1 = true := by kernel_rfl
end Go.Proofs.YtlkfclgkinaibaaGreat
