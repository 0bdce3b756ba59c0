/- DaemonSpares: runs by the kernel. -/
import Derived.Test.YtlkfclgkinaibaaGreatZKDT8
namespace Go.Proofs.YtlkfclgkinaibaaGreat
theorem dsB8_0 : okB H8 8 0 1 = true := by kernel_rfl
theorem dsB8_1 : okB H8 8 1 1 = true := by kernel_rfl
theorem dsB8_2 : okB H8 8 2 1 = true := by kernel_rfl
theorem dsB8_3 : okB H8 8 3 1 = true := by kernel_rfl
end Go.Proofs.YtlkfclgkinaibaaGreat
