/- LoanMany: runs by the kernel. -/
import Derived.Test.YtlkfclgkinaibaaGreatZLMT7
namespace Go.Proofs.YtlkfclgkinaibaaGreat
theorem dsB14_8 (keep : Nat) : okB 14 8 6 keep = true := by kernel_rfl
theorem dsB15_0 (keep : Nat) : okB 15 0 8 keep = true := by kernel_rfl
theorem dsB15_8 (keep : Nat) : okB 15 8 7 keep = true := by kernel_rfl
end Go.Proofs.YtlkfclgkinaibaaGreat
