/- DaemonSpares: runs by the kernel. -/
import Derived.Test.YtlkfclgkinaibaaGreatZKDT8
namespace Go.Proofs.YtlkfclgkinaibaaGreat
theorem dsB2_0 : okB H2 2 0 2 = true := by kernel_rfl
theorem dsB3_0 : okB H3 3 0 3 = true := by kernel_rfl
theorem dsB4_0 : okB H4 4 0 4 = true := by kernel_rfl
theorem dsB5_0 : okB H5 5 0 3 = true := by kernel_rfl
end Go.Proofs.YtlkfclgkinaibaaGreat
