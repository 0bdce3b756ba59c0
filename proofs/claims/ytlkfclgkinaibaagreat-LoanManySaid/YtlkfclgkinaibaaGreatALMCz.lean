/- LoanMany: runs by the kernel. -/
import Derived.Test.YtlkfclgkinaibaaGreatZLMT7
namespace Go.Proofs.YtlkfclgkinaibaaGreat
theorem dsB30_24 (keep : Nat) : okB 30 24 6 keep = true := by kernel_rfl
end Go.Proofs.YtlkfclgkinaibaaGreat
