/- LoanMany: runs by the kernel. -/
import Derived.Test.YtlkfclgkinaibaaGreatZLMT7
namespace Go.Proofs.YtlkfclgkinaibaaGreat
theorem dsB16_0 (keep : Nat) : okB 16 0 8 keep = true := by kernel_rfl
theorem dsB16_8 (keep : Nat) : okB 16 8 8 keep = true := by kernel_rfl
theorem dsB17_0 (keep : Nat) : okB 17 0 8 keep = true := by kernel_rfl
end Go.Proofs.YtlkfclgkinaibaaGreat
