/- DaemonSpares: runs by the kernel. -/
import Derived.Test.YtlkfclgkinaibaaGreatZKDT8
namespace Go.Proofs.YtlkfclgkinaibaaGreat
theorem dsB11_8 : okB H11 11 8 1 = true := by kernel_rfl
theorem dsB11_9 : okB H11 11 9 1 = true := by kernel_rfl
end Go.Proofs.YtlkfclgkinaibaaGreat
