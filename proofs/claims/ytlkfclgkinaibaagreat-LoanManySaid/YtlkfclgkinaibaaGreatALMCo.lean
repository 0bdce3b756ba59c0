/- LoanMany: runs by the kernel. -/
import Derived.Test.YtlkfclgkinaibaaGreatZLMT7
namespace Go.Proofs.YtlkfclgkinaibaaGreat
theorem dsB21_0 (keep : Nat) : okB 21 0 8 keep = true := by kernel_rfl
theorem dsB21_8 (keep : Nat) : okB 21 8 8 keep = true := by kernel_rfl
theorem dsB21_16 (keep : Nat) : okB 21 16 5 keep = true := by kernel_rfl
end Go.Proofs.YtlkfclgkinaibaaGreat
