/- KernCopies: runs by the kernel. -/
import Derived.Test.YtlkfclgkinaibaaGreatZKCT8
namespace Go.Proofs.YtlkfclgkinaibaaGreat
theorem dsA1 (keep : Nat) : GoodA 1 keep H1 7123 := by
  unfold GoodA
  kernel_rfl
theorem dsA2 (keep : Nat) : GoodA 2 keep H2 7446 := by
  unfold GoodA
  kernel_rfl
theorem dsA3 (keep : Nat) : GoodA 3 keep H3 7778 := by
  unfold GoodA
  kernel_rfl
theorem dsA4 (keep : Nat) : GoodA 4 keep H4 8123 := by
  unfold GoodA
  kernel_rfl
theorem dsA5 (keep : Nat) : GoodA 5 keep H5 8481 := by
  unfold GoodA
  kernel_rfl
theorem dsA6 (keep : Nat) : GoodA 6 keep H6 8894 := by
  unfold GoodA
  kernel_rfl
end Go.Proofs.YtlkfclgkinaibaaGreat
