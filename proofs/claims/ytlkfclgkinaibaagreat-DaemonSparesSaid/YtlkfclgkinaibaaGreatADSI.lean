/- DaemonSpares: runs by the kernel. -/
import Derived.Test.YtlkfclgkinaibaaGreatZKDT8
namespace Go.Proofs.YtlkfclgkinaibaaGreat
theorem dsB9_0 : okB H9 9 0 1 = true := by kernel_rfl
theorem dsB9_1 : okB H9 9 1 1 = true := by kernel_rfl
theorem dsB9_2 : okB H9 9 2 1 = true := by kernel_rfl
end Go.Proofs.YtlkfclgkinaibaaGreat
