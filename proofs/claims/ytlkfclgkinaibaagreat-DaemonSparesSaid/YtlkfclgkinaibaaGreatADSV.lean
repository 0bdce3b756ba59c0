/- DaemonSpares: runs by the kernel. -/
import Derived.Test.YtlkfclgkinaibaaGreatZKDT8
namespace Go.Proofs.YtlkfclgkinaibaaGreat
theorem dsB11_10 : okB H11 11 10 1 = true := by kernel_rfl
end Go.Proofs.YtlkfclgkinaibaaGreat
