/- LoanMany: runs by the kernel. -/
import Derived.Test.YtlkfclgkinaibaaGreatZLMT7
namespace Go.Proofs.YtlkfclgkinaibaaGreat
theorem dsB29_8 (keep : Nat) : okB 29 8 8 keep = true := by kernel_rfl
theorem dsB29_16 (keep : Nat) : okB 29 16 8 keep = true := by kernel_rfl
theorem dsB29_24 (keep : Nat) : okB 29 24 5 keep = true := by kernel_rfl
end Go.Proofs.YtlkfclgkinaibaaGreat
