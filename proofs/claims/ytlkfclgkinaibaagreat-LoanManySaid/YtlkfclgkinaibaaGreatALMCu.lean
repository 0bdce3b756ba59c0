/- LoanMany: runs by the kernel. -/
import Derived.Test.YtlkfclgkinaibaaGreatZLMT7
namespace Go.Proofs.YtlkfclgkinaibaaGreat
theorem dsB27_0 (keep : Nat) : okB 27 0 8 keep = true := by kernel_rfl
theorem dsB27_8 (keep : Nat) : okB 27 8 8 keep = true := by kernel_rfl
theorem dsB27_16 (keep : Nat) : okB 27 16 8 keep = true := by kernel_rfl
end Go.Proofs.YtlkfclgkinaibaaGreat
