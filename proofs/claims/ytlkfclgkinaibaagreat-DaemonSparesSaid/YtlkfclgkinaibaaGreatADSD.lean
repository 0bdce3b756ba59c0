/- DaemonSpares: runs by the kernel. -/
import Derived.Test.YtlkfclgkinaibaaGreatZKDT8
namespace Go.Proofs.YtlkfclgkinaibaaGreat
theorem dsB5_3 : okB H5 5 3 2 = true := by kernel_rfl
theorem dsB6_0 : okB H6 6 0 2 = true := by kernel_rfl
theorem dsB6_2 : okB H6 6 2 2 = true := by kernel_rfl
theorem dsB6_4 : okB H6 6 4 2 = true := by kernel_rfl
end Go.Proofs.YtlkfclgkinaibaaGreat
