/- DaemonSpares: runs by the kernel. -/
import Derived.Test.YtlkfclgkinaibaaGreatZKDT8
namespace Go.Proofs.YtlkfclgkinaibaaGreat
theorem dsB11_4 : okB H11 11 4 1 = true := by kernel_rfl
theorem dsB11_5 : okB H11 11 5 1 = true := by kernel_rfl
end Go.Proofs.YtlkfclgkinaibaaGreat
