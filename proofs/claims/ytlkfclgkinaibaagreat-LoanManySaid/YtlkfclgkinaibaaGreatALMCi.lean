/- LoanMany: runs by the kernel. -/
import Derived.Test.YtlkfclgkinaibaaGreatZLMT7
namespace Go.Proofs.YtlkfclgkinaibaaGreat
theorem dsB13_0 (keep : Nat) : okB 13 0 8 keep = true := by kernel_rfl
theorem dsB13_8 (keep : Nat) : okB 13 8 5 keep = true := by kernel_rfl
theorem dsB14_0 (keep : Nat) : okB 14 0 8 keep = true := by kernel_rfl
end Go.Proofs.YtlkfclgkinaibaaGreat
