/- LoanShares: runs by the kernel. -/
import Derived.Test.YtlkfclgkinaibaaGreatZLST7
namespace Go.Proofs.YtlkfclgkinaibaaGreat
theorem dsS208 (c : Nat) : seenL 208 16 c = willL 208 16 c := by kernel_rfl
end Go.Proofs.YtlkfclgkinaibaaGreat
