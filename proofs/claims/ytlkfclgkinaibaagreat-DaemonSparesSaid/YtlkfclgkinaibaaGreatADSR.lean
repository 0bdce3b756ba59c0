/- DaemonSpares: runs by the kernel. -/
import Derived.Test.YtlkfclgkinaibaaGreatZKDT8
namespace Go.Proofs.YtlkfclgkinaibaaGreat
theorem dsB11_2 : okB H11 11 2 1 = true := by kernel_rfl
theorem dsB11_3 : okB H11 11 3 1 = true := by kernel_rfl
end Go.Proofs.YtlkfclgkinaibaaGreat
