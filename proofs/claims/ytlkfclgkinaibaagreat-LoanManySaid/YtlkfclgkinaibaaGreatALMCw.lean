/- LoanMany: runs by the kernel. -/
import Derived.Test.YtlkfclgkinaibaaGreatZLMT7
namespace Go.Proofs.YtlkfclgkinaibaaGreat
theorem dsB28_16 (keep : Nat) : okB 28 16 8 keep = true := by kernel_rfl
theorem dsB28_24 (keep : Nat) : okB 28 24 4 keep = true := by kernel_rfl
theorem dsB29_0 (keep : Nat) : okB 29 0 8 keep = true := by kernel_rfl
end Go.Proofs.YtlkfclgkinaibaaGreat
