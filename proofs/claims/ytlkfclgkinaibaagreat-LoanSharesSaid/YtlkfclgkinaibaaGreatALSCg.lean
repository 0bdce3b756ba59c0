/- LoanShares: runs by the kernel. -/
import Derived.Test.YtlkfclgkinaibaaGreatZLST7
namespace Go.Proofs.YtlkfclgkinaibaaGreat
theorem dsS64 (c : Nat) : seenL 64 16 c = willL 64 16 c := by kernel_rfl
end Go.Proofs.YtlkfclgkinaibaaGreat
