/- DaemonSpares: runs by the kernel. -/
import Derived.Test.YtlkfclgkinaibaaGreatZKDT8
namespace Go.Proofs.YtlkfclgkinaibaaGreat
theorem dsB7_4 : okB H7 7 4 1 = true := by kernel_rfl
theorem dsB7_5 : okB H7 7 5 1 = true := by kernel_rfl
theorem dsB7_6 : okB H7 7 6 1 = true := by kernel_rfl
end Go.Proofs.YtlkfclgkinaibaaGreat
