/- LoanShares: runs by the kernel. -/
import Derived.Test.YtlkfclgkinaibaaGreatZLST7
namespace Go.Proofs.YtlkfclgkinaibaaGreat
theorem dsS128 (c : Nat) : seenL 128 16 c = willL 128 16 c := by kernel_rfl
end Go.Proofs.YtlkfclgkinaibaaGreat
