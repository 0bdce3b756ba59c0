/- LoanMany: runs by the kernel. -/
import Derived.Test.YtlkfclgkinaibaaGreatZLMT7
namespace Go.Proofs.YtlkfclgkinaibaaGreat
theorem dsB23_0 (keep : Nat) : okB 23 0 8 keep = true := by kernel_rfl
theorem dsB23_8 (keep : Nat) : okB 23 8 8 keep = true := by kernel_rfl
theorem dsB23_16 (keep : Nat) : okB 23 16 7 keep = true := by kernel_rfl
end Go.Proofs.YtlkfclgkinaibaaGreat
