/- LoanShares: runs by the kernel. -/
import Derived.Test.YtlkfclgkinaibaaGreatZLST7
namespace Go.Proofs.YtlkfclgkinaibaaGreat
theorem dsS224 (c : Nat) : seenL 224 16 c = willL 224 16 c := by kernel_rfl
end Go.Proofs.YtlkfclgkinaibaaGreat
