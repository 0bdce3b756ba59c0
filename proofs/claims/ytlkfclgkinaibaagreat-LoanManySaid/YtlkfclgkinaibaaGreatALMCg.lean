/- LoanMany: runs by the kernel. -/
import Derived.Test.YtlkfclgkinaibaaGreatZLMT7
namespace Go.Proofs.YtlkfclgkinaibaaGreat
theorem dsB9_0 (keep : Nat) : okB 9 0 8 keep = true := by kernel_rfl
theorem dsB9_8 (keep : Nat) : okB 9 8 1 keep = true := by kernel_rfl
theorem dsB10_0 (keep : Nat) : okB 10 0 8 keep = true := by kernel_rfl
theorem dsB10_8 (keep : Nat) : okB 10 8 2 keep = true := by kernel_rfl
end Go.Proofs.YtlkfclgkinaibaaGreat
