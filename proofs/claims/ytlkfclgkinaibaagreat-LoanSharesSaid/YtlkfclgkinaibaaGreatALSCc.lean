/- LoanShares: runs by the kernel. -/
import Derived.Test.YtlkfclgkinaibaaGreatZLST7
namespace Go.Proofs.YtlkfclgkinaibaaGreat
theorem dsD36 (d v : Nat) : Round (runD (HL 36) (36 + 1) (d + 37) v) (36 + 1) (d + 37) v := by
  unfold Round
  kernel_rfl
theorem dsD37 (d v : Nat) : Round (runD (HL 37) (37 + 1) (d + 38) v) (37 + 1) (d + 38) v := by
  unfold Round
  kernel_rfl
theorem dsD38 (d v : Nat) : Round (runD (HL 38) (38 + 1) (d + 39) v) (38 + 1) (d + 39) v := by
  unfold Round
  kernel_rfl
theorem dsD39 (d v : Nat) : Round (runD (HL 39) (39 + 1) (d + 40) v) (39 + 1) (d + 40) v := by
  unfold Round
  kernel_rfl
theorem dsS0 (c : Nat) : seenL 0 16 c = willL 0 16 c := by kernel_rfl
end Go.Proofs.YtlkfclgkinaibaaGreat
