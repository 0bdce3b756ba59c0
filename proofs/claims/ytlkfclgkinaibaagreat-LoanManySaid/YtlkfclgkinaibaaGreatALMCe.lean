/- LoanMany: runs by the kernel. -/
import Derived.Test.YtlkfclgkinaibaaGreatZLMT7
namespace Go.Proofs.YtlkfclgkinaibaaGreat
theorem dsF21 (keep : Nat) : GoodF 21 keep := by
  unfold GoodF
  kernel_rfl
theorem dsF22 (keep : Nat) : GoodF 22 keep := by
  unfold GoodF
  kernel_rfl
theorem dsF23 (keep : Nat) : GoodF 23 keep := by
  unfold GoodF
  kernel_rfl
theorem dsF24 (keep : Nat) : GoodF 24 keep := by
  unfold GoodF
  kernel_rfl
theorem dsF25 (keep : Nat) : GoodF 25 keep := by
  unfold GoodF
  kernel_rfl
theorem dsF26 (keep : Nat) : GoodF 26 keep := by
  unfold GoodF
  kernel_rfl
theorem dsF27 (keep : Nat) : GoodF 27 keep := by
  unfold GoodF
  kernel_rfl
theorem dsF28 (keep : Nat) : GoodF 28 keep := by
  unfold GoodF
  kernel_rfl
theorem dsF29 (keep : Nat) : GoodF 29 keep := by
  unfold GoodF
  kernel_rfl
theorem dsF30 (keep : Nat) : GoodF 30 keep := by
  unfold GoodF
  kernel_rfl
theorem dsB1_0 (keep : Nat) : okB 1 0 1 keep = true := by kernel_rfl
theorem dsB2_0 (keep : Nat) : okB 2 0 2 keep = true := by kernel_rfl
theorem dsB3_0 (keep : Nat) : okB 3 0 3 keep = true := by kernel_rfl
theorem dsB4_0 (keep : Nat) : okB 4 0 4 keep = true := by kernel_rfl
theorem dsB5_0 (keep : Nat) : okB 5 0 5 keep = true := by kernel_rfl
end Go.Proofs.YtlkfclgkinaibaaGreat
