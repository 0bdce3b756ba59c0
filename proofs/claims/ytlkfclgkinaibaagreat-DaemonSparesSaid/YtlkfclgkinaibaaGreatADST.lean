/- DaemonSpares: runs by the kernel. -/
import Derived.Test.YtlkfclgkinaibaaGreatZKDT8
namespace Go.Proofs.YtlkfclgkinaibaaGreat
theorem dsB11_6 : okB H11 11 6 1 = true := by kernel_rfl
theorem dsB11_7 : okB H11 11 7 1 = true := by kernel_rfl
end Go.Proofs.YtlkfclgkinaibaaGreat
