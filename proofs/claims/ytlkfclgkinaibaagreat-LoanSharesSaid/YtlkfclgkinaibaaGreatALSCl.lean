/- LoanShares: runs by the kernel. -/
import Derived.Test.YtlkfclgkinaibaaGreatZLST7
namespace Go.Proofs.YtlkfclgkinaibaaGreat
theorem dsS144 (c : Nat) : seenL 144 16 c = willL 144 16 c := by kernel_rfl
end Go.Proofs.YtlkfclgkinaibaaGreat
