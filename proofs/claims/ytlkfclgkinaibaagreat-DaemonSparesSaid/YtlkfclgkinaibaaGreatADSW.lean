/- DaemonSpares: runs by the kernel. -/
import Derived.Test.YtlkfclgkinaibaaGreatZKDT8
namespace Go.Proofs.YtlkfclgkinaibaaGreat
theorem dsB8_4 : okB H8 8 4 1 = true := by kernel_rfl
theorem dsB8_5 : okB H8 8 5 1 = true := by kernel_rfl
theorem dsB8_6 : okB H8 8 6 1 = true := by kernel_rfl
theorem dsB8_7 : okB H8 8 7 1 = true := by kernel_rfl
end Go.Proofs.YtlkfclgkinaibaaGreat
