/- LoanShares: runs by the kernel. -/
import Derived.Test.YtlkfclgkinaibaaGreatZLST7
namespace Go.Proofs.YtlkfclgkinaibaaGreat
theorem dsS96 (c : Nat) : seenL 96 16 c = willL 96 16 c := by kernel_rfl
end Go.Proofs.YtlkfclgkinaibaaGreat
