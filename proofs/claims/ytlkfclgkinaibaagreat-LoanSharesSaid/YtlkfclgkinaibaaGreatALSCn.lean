/- LoanShares: runs by the kernel. -/
import Derived.Test.YtlkfclgkinaibaaGreatZLST7
namespace Go.Proofs.YtlkfclgkinaibaaGreat
theorem dsS176 (c : Nat) : seenL 176 16 c = willL 176 16 c := by kernel_rfl
end Go.Proofs.YtlkfclgkinaibaaGreat
