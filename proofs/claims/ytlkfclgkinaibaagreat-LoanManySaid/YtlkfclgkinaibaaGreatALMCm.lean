/- LoanMany: runs by the kernel. -/
import Derived.Test.YtlkfclgkinaibaaGreatZLMT7
namespace Go.Proofs.YtlkfclgkinaibaaGreat
theorem dsB18_16 (keep : Nat) : okB 18 16 2 keep = true := by kernel_rfl
theorem dsB19_0 (keep : Nat) : okB 19 0 8 keep = true := by kernel_rfl
theorem dsB19_8 (keep : Nat) : okB 19 8 8 keep = true := by kernel_rfl
theorem dsB19_16 (keep : Nat) : okB 19 16 3 keep = true := by kernel_rfl
end Go.Proofs.YtlkfclgkinaibaaGreat
