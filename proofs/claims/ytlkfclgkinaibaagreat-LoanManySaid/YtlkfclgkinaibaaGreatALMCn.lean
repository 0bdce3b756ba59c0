/- LoanMany: runs by the kernel. -/
import Derived.Test.YtlkfclgkinaibaaGreatZLMT7
namespace Go.Proofs.YtlkfclgkinaibaaGreat
theorem dsB20_0 (keep : Nat) : okB 20 0 8 keep = true := by kernel_rfl
theorem dsB20_8 (keep : Nat) : okB 20 8 8 keep = true := by kernel_rfl
theorem dsB20_16 (keep : Nat) : okB 20 16 4 keep = true := by kernel_rfl
end Go.Proofs.YtlkfclgkinaibaaGreat
