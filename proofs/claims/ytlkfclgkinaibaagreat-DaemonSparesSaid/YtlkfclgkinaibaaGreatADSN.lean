/- DaemonSpares: runs by the kernel. -/
import Derived.Test.YtlkfclgkinaibaaGreatZKDT8
namespace Go.Proofs.YtlkfclgkinaibaaGreat
theorem dsB10_4 : okB H10 10 4 1 = true := by kernel_rfl
theorem dsB10_5 : okB H10 10 5 1 = true := by kernel_rfl
end Go.Proofs.YtlkfclgkinaibaaGreat
