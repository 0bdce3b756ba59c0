/- LoanShares: runs by the kernel. -/
import Derived.Test.YtlkfclgkinaibaaGreatZLST7
namespace Go.Proofs.YtlkfclgkinaibaaGreat
theorem dsS240 (c : Nat) : seenL 240 16 c = willL 240 16 c := by kernel_rfl
theorem dsT1 (N v : Nat) : GoodT 1 N v := by
  unfold GoodT
  kernel_rfl
theorem dsT2 (N v : Nat) : GoodT 2 N v := by
  unfold GoodT
  kernel_rfl
theorem dsT3 (N v : Nat) : GoodT 3 N v := by
  unfold GoodT
  kernel_rfl
theorem dsT4 (N v : Nat) : GoodT 4 N v := by
  unfold GoodT
  kernel_rfl
theorem dsT5 (N v : Nat) : GoodT 5 N v := by
  unfold GoodT
  kernel_rfl
theorem dsT6 (N v : Nat) : GoodT 6 N v := by
  unfold GoodT
  kernel_rfl
theorem dsT7 (N v : Nat) : GoodT 7 N v := by
  unfold GoodT
  kernel_rfl
theorem dsT8 (N v : Nat) : GoodT 8 N v := by
  unfold GoodT
  kernel_rfl
theorem dsT9 (N v : Nat) : GoodT 9 N v := by
  unfold GoodT
  kernel_rfl
end Go.Proofs.YtlkfclgkinaibaaGreat
