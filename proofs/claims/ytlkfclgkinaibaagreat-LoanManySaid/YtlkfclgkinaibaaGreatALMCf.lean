/- LoanMany: runs by the kernel. -/
import Derived.Test.YtlkfclgkinaibaaGreatZLMT7
namespace Go.Proofs.YtlkfclgkinaibaaGreat
theorem dsB6_0 (keep : Nat) : okB 6 0 6 keep = true := by kernel_rfl
theorem dsB7_0 (keep : Nat) : okB 7 0 7 keep = true := by kernel_rfl
theorem dsB8_0 (keep : Nat) : okB 8 0 8 keep = true := by kernel_rfl
end Go.Proofs.YtlkfclgkinaibaaGreat
