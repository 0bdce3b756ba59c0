/- LoanMany: runs by the kernel. -/
import Derived.Test.YtlkfclgkinaibaaGreatZLMT7
namespace Go.Proofs.YtlkfclgkinaibaaGreat
theorem dsB26_0 (keep : Nat) : okB 26 0 8 keep = true := by kernel_rfl
theorem dsB26_8 (keep : Nat) : okB 26 8 8 keep = true := by kernel_rfl
theorem dsB26_16 (keep : Nat) : okB 26 16 8 keep = true := by kernel_rfl
theorem dsB26_24 (keep : Nat) : okB 26 24 2 keep = true := by kernel_rfl
end Go.Proofs.YtlkfclgkinaibaaGreat
