/- LoanMany: runs by the kernel. -/
import Derived.Test.YtlkfclgkinaibaaGreatZLMT7
namespace Go.Proofs.YtlkfclgkinaibaaGreat
theorem dsB22_0 (keep : Nat) : okB 22 0 8 keep = true := by kernel_rfl
theorem dsB22_8 (keep : Nat) : okB 22 8 8 keep = true := by kernel_rfl
theorem dsB22_16 (keep : Nat) : okB 22 16 6 keep = true := by kernel_rfl
end Go.Proofs.YtlkfclgkinaibaaGreat
