/- LoanShares: runs by the kernel. -/
import Derived.Test.YtlkfclgkinaibaaGreatZLST7
namespace Go.Proofs.YtlkfclgkinaibaaGreat
theorem dsS80 (c : Nat) : seenL 80 16 c = willL 80 16 c := by kernel_rfl
end Go.Proofs.YtlkfclgkinaibaaGreat
