/- LoanMany: runs by the kernel. -/
import Derived.Test.YtlkfclgkinaibaaGreatZLMT7
namespace Go.Proofs.YtlkfclgkinaibaaGreat
theorem dsB25_0 (keep : Nat) : okB 25 0 8 keep = true := by kernel_rfl
theorem dsB25_8 (keep : Nat) : okB 25 8 8 keep = true := by kernel_rfl
theorem dsB25_16 (keep : Nat) : okB 25 16 8 keep = true := by kernel_rfl
theorem dsB25_24 (keep : Nat) : okB 25 24 1 keep = true := by kernel_rfl
end Go.Proofs.YtlkfclgkinaibaaGreat
