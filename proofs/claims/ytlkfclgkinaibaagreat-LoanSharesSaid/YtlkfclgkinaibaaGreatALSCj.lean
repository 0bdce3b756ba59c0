/- LoanShares: runs by the kernel. -/
import Derived.Test.YtlkfclgkinaibaaGreatZLST7
namespace Go.Proofs.YtlkfclgkinaibaaGreat
theorem dsS112 (c : Nat) : seenL 112 16 c = willL 112 16 c := by kernel_rfl
end Go.Proofs.YtlkfclgkinaibaaGreat
