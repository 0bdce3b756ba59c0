/- DaemonSpares: runs by the kernel. -/
import Derived.Test.YtlkfclgkinaibaaGreatZKDT8
namespace Go.Proofs.YtlkfclgkinaibaaGreat
theorem dsA9 (keep : Nat) : GoodA 9 keep H9 := by
  unfold GoodA
  kernel_rfl
theorem dsA10 (keep : Nat) : GoodA 10 keep H10 := by
  unfold GoodA
  kernel_rfl
theorem dsA11 (keep : Nat) : GoodA 11 keep H11 := by
  unfold GoodA
  kernel_rfl
end Go.Proofs.YtlkfclgkinaibaaGreat
