/- DaemonSpares: runs by the kernel. -/
import Derived.Test.YtlkfclgkinaibaaGreatZKDT8
namespace Go.Proofs.YtlkfclgkinaibaaGreat
theorem dsB10_2 : okB H10 10 2 1 = true := by kernel_rfl
theorem dsB10_3 : okB H10 10 3 1 = true := by kernel_rfl
end Go.Proofs.YtlkfclgkinaibaaGreat
