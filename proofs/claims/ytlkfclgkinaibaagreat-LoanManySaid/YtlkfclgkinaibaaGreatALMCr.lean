/- LoanMany: runs by the kernel. -/
import Derived.Test.YtlkfclgkinaibaaGreatZLMT7
namespace Go.Proofs.YtlkfclgkinaibaaGreat
theorem dsB24_0 (keep : Nat) : okB 24 0 8 keep = true := by kernel_rfl
theorem dsB24_8 (keep : Nat) : okB 24 8 8 keep = true := by kernel_rfl
theorem dsB24_16 (keep : Nat) : okB 24 16 8 keep = true := by kernel_rfl
end Go.Proofs.YtlkfclgkinaibaaGreat
