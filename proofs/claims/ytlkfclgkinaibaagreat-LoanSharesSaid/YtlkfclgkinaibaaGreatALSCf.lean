/- LoanShares: runs by the kernel. -/
import Derived.Test.YtlkfclgkinaibaaGreatZLST7
namespace Go.Proofs.YtlkfclgkinaibaaGreat
theorem dsS48 (c : Nat) : seenL 48 16 c = willL 48 16 c := by kernel_rfl
end Go.Proofs.YtlkfclgkinaibaaGreat
