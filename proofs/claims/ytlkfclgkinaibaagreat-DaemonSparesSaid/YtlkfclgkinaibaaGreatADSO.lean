/- DaemonSpares: runs by the kernel. -/
import Derived.Test.YtlkfclgkinaibaaGreatZKDT8
namespace Go.Proofs.YtlkfclgkinaibaaGreat
theorem dsB10_6 : okB H10 10 6 1 = true := by kernel_rfl
theorem dsB10_7 : okB H10 10 7 1 = true := by kernel_rfl
end Go.Proofs.YtlkfclgkinaibaaGreat
