/- LoanMany: runs by the kernel. -/
import Derived.Test.YtlkfclgkinaibaaGreatZLMT7
namespace Go.Proofs.YtlkfclgkinaibaaGreat
theorem dsB17_8 (keep : Nat) : okB 17 8 8 keep = true := by kernel_rfl
theorem dsB17_16 (keep : Nat) : okB 17 16 1 keep = true := by kernel_rfl
theorem dsB18_0 (keep : Nat) : okB 18 0 8 keep = true := by kernel_rfl
theorem dsB18_8 (keep : Nat) : okB 18 8 8 keep = true := by kernel_rfl
end Go.Proofs.YtlkfclgkinaibaaGreat
