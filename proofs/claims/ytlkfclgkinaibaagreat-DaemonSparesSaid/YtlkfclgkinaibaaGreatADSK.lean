/- DaemonSpares: runs by the kernel. -/
import Derived.Test.YtlkfclgkinaibaaGreatZKDT8
namespace Go.Proofs.YtlkfclgkinaibaaGreat
theorem dsB9_6 : okB H9 9 6 1 = true := by kernel_rfl
theorem dsB9_7 : okB H9 9 7 1 = true := by kernel_rfl
theorem dsB9_8 : okB H9 9 8 1 = true := by kernel_rfl
end Go.Proofs.YtlkfclgkinaibaaGreat
