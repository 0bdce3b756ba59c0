/- LoanShares: runs by the kernel. -/
import Derived.Test.YtlkfclgkinaibaaGreatZLST7
namespace Go.Proofs.YtlkfclgkinaibaaGreat
theorem dsS32 (c : Nat) : seenL 32 16 c = willL 32 16 c := by kernel_rfl
end Go.Proofs.YtlkfclgkinaibaaGreat
