/- LoanShares: runs by the kernel. -/
import Derived.Test.YtlkfclgkinaibaaGreatZLST7
namespace Go.Proofs.YtlkfclgkinaibaaGreat
theorem dsS160 (c : Nat) : seenL 160 16 c = willL 160 16 c := by kernel_rfl
end Go.Proofs.YtlkfclgkinaibaaGreat
