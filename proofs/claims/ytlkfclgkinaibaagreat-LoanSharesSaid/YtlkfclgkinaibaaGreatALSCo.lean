/- LoanShares: runs by the kernel. -/
import Derived.Test.YtlkfclgkinaibaaGreatZLST7
namespace Go.Proofs.YtlkfclgkinaibaaGreat
theorem dsS192 (c : Nat) : seenL 192 16 c = willL 192 16 c := by kernel_rfl
end Go.Proofs.YtlkfclgkinaibaaGreat
