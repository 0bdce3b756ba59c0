/- DaemonSpares: runs by the kernel. -/
import Derived.Test.YtlkfclgkinaibaaGreatZKDT8
namespace Go.Proofs.YtlkfclgkinaibaaGreat
theorem dsB7_0 : okB H7 7 0 1 = true := by kernel_rfl
theorem dsB7_1 : okB H7 7 1 1 = true := by kernel_rfl
theorem dsB7_2 : okB H7 7 2 1 = true := by kernel_rfl
theorem dsB7_3 : okB H7 7 3 1 = true := by kernel_rfl
end Go.Proofs.YtlkfclgkinaibaaGreat
