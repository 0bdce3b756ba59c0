/- DaemonSpares: runs by the kernel. -/
import Derived.Test.YtlkfclgkinaibaaGreatZKDT8
namespace Go.Proofs.YtlkfclgkinaibaaGreat
theorem dsB9_3 : okB H9 9 3 1 = true := by kernel_rfl
theorem dsB9_4 : okB H9 9 4 1 = true := by kernel_rfl
theorem dsB9_5 : okB H9 9 5 1 = true := by kernel_rfl
end Go.Proofs.YtlkfclgkinaibaaGreat
