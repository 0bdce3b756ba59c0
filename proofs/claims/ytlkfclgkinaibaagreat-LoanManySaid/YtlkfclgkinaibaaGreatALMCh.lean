/- LoanMany: runs by the kernel. -/
import Derived.Test.YtlkfclgkinaibaaGreatZLMT7
namespace Go.Proofs.YtlkfclgkinaibaaGreat
theorem dsB11_0 (keep : Nat) : okB 11 0 8 keep = true := by kernel_rfl
theorem dsB11_8 (keep : Nat) : okB 11 8 3 keep = true := by kernel_rfl
theorem dsB12_0 (keep : Nat) : okB 12 0 8 keep = true := by kernel_rfl
theorem dsB12_8 (keep : Nat) : okB 12 8 4 keep = true := by kernel_rfl
end Go.Proofs.YtlkfclgkinaibaaGreat
