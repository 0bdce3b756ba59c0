/- DaemonSpares: runs by the kernel. -/
import Derived.Test.YtlkfclgkinaibaaGreatZKDT8
namespace Go.Proofs.YtlkfclgkinaibaaGreat
theorem dsA2 (keep : Nat) : GoodA 2 keep H2 := by
  unfold GoodA
  kernel_rfl
theorem dsA3 (keep : Nat) : GoodA 3 keep H3 := by
  unfold GoodA
  kernel_rfl
theorem dsA4 (keep : Nat) : GoodA 4 keep H4 := by
  unfold GoodA
  kernel_rfl
theorem dsA5 (keep : Nat) : GoodA 5 keep H5 := by
  unfold GoodA
  kernel_rfl
theorem dsA6 (keep : Nat) : GoodA 6 keep H6 := by
  unfold GoodA
  kernel_rfl
theorem dsA7 (keep : Nat) : GoodA 7 keep H7 := by
  unfold GoodA
  kernel_rfl
theorem dsA8 (keep : Nat) : GoodA 8 keep H8 := by
  unfold GoodA
  kernel_rfl
end Go.Proofs.YtlkfclgkinaibaaGreat
