/- LoanShares: runs by the kernel. -/
import Derived.Test.YtlkfclgkinaibaaGreatZLST7
namespace Go.Proofs.YtlkfclgkinaibaaGreat
theorem dsS16 (c : Nat) : seenL 16 16 c = willL 16 16 c := by kernel_rfl
end Go.Proofs.YtlkfclgkinaibaaGreat
