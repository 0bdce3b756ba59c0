/- LoanMany: runs by the kernel. -/
import Derived.Test.YtlkfclgkinaibaaGreatZLMT7
namespace Go.Proofs.YtlkfclgkinaibaaGreat
theorem dsB30_0 (keep : Nat) : okB 30 0 8 keep = true := by kernel_rfl
theorem dsB30_8 (keep : Nat) : okB 30 8 8 keep = true := by kernel_rfl
theorem dsB30_16 (keep : Nat) : okB 30 16 8 keep = true := by kernel_rfl
end Go.Proofs.YtlkfclgkinaibaaGreat
