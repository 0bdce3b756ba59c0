/- LoanMany: runs by the kernel. -/
import Derived.Test.YtlkfclgkinaibaaGreatZLMT7
namespace Go.Proofs.YtlkfclgkinaibaaGreat
theorem dsB27_24 (keep : Nat) : okB 27 24 3 keep = true := by kernel_rfl
theorem dsB28_0 (keep : Nat) : okB 28 0 8 keep = true := by kernel_rfl
theorem dsB28_8 (keep : Nat) : okB 28 8 8 keep = true := by kernel_rfl
end Go.Proofs.YtlkfclgkinaibaaGreat
