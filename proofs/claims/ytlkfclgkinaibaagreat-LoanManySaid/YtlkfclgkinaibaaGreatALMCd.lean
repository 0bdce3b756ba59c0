/- LoanMany: runs by the kernel. -/
import Derived.Test.YtlkfclgkinaibaaGreatZLMT7
namespace Go.Proofs.YtlkfclgkinaibaaGreat
theorem dsD19 (d keep : Nat) : Round (runD (HL (d + 20) 19) 20 (d + 20) keep) 20 (d + 20) keep := by
  unfold Round
  kernel_rfl
theorem dsD20 (d keep : Nat) : Round (runD (HL (d + 21) 20) 21 (d + 21) keep) 21 (d + 21) keep := by
  unfold Round
  kernel_rfl
theorem dsD21 (d keep : Nat) : Round (runD (HL (d + 22) 21) 22 (d + 22) keep) 22 (d + 22) keep := by
  unfold Round
  kernel_rfl
theorem dsD22 (d keep : Nat) : Round (runD (HL (d + 23) 22) 23 (d + 23) keep) 23 (d + 23) keep := by
  unfold Round
  kernel_rfl
theorem dsD23 (d keep : Nat) : Round (runD (HL (d + 24) 23) 24 (d + 24) keep) 24 (d + 24) keep := by
  unfold Round
  kernel_rfl
theorem dsD24 (d keep : Nat) : Round (runD (HL (d + 25) 24) 25 (d + 25) keep) 25 (d + 25) keep := by
  unfold Round
  kernel_rfl
theorem dsD25 (d keep : Nat) : Round (runD (HL (d + 26) 25) 26 (d + 26) keep) 26 (d + 26) keep := by
  unfold Round
  kernel_rfl
theorem dsD26 (d keep : Nat) : Round (runD (HL (d + 27) 26) 27 (d + 27) keep) 27 (d + 27) keep := by
  unfold Round
  kernel_rfl
theorem dsD27 (d keep : Nat) : Round (runD (HL (d + 28) 27) 28 (d + 28) keep) 28 (d + 28) keep := by
  unfold Round
  kernel_rfl
theorem dsD28 (d keep : Nat) : Round (runD (HL (d + 29) 28) 29 (d + 29) keep) 29 (d + 29) keep := by
  unfold Round
  kernel_rfl
theorem dsD29 (d keep : Nat) : Round (runD (HL (d + 30) 29) 30 (d + 30) keep) 30 (d + 30) keep := by
  unfold Round
  kernel_rfl
theorem dsF1 (keep : Nat) : GoodF 1 keep := by
  unfold GoodF
  kernel_rfl
theorem dsF2 (keep : Nat) : GoodF 2 keep := by
  unfold GoodF
  kernel_rfl
theorem dsF3 (keep : Nat) : GoodF 3 keep := by
  unfold GoodF
  kernel_rfl
theorem dsF4 (keep : Nat) : GoodF 4 keep := by
  unfold GoodF
  kernel_rfl
theorem dsF5 (keep : Nat) : GoodF 5 keep := by
  unfold GoodF
  kernel_rfl
theorem dsF6 (keep : Nat) : GoodF 6 keep := by
  unfold GoodF
  kernel_rfl
theorem dsF7 (keep : Nat) : GoodF 7 keep := by
  unfold GoodF
  kernel_rfl
theorem dsF8 (keep : Nat) : GoodF 8 keep := by
  unfold GoodF
  kernel_rfl
theorem dsF9 (keep : Nat) : GoodF 9 keep := by
  unfold GoodF
  kernel_rfl
theorem dsF10 (keep : Nat) : GoodF 10 keep := by
  unfold GoodF
  kernel_rfl
theorem dsF11 (keep : Nat) : GoodF 11 keep := by
  unfold GoodF
  kernel_rfl
theorem dsF12 (keep : Nat) : GoodF 12 keep := by
  unfold GoodF
  kernel_rfl
theorem dsF13 (keep : Nat) : GoodF 13 keep := by
  unfold GoodF
  kernel_rfl
theorem dsF14 (keep : Nat) : GoodF 14 keep := by
  unfold GoodF
  kernel_rfl
theorem dsF15 (keep : Nat) : GoodF 15 keep := by
  unfold GoodF
  kernel_rfl
theorem dsF16 (keep : Nat) : GoodF 16 keep := by
  unfold GoodF
  kernel_rfl
theorem dsF17 (keep : Nat) : GoodF 17 keep := by
  unfold GoodF
  kernel_rfl
theorem dsF18 (keep : Nat) : GoodF 18 keep := by
  unfold GoodF
  kernel_rfl
theorem dsF19 (keep : Nat) : GoodF 19 keep := by
  unfold GoodF
  kernel_rfl
theorem dsF20 (keep : Nat) : GoodF 20 keep := by
  unfold GoodF
  kernel_rfl
end Go.Proofs.YtlkfclgkinaibaaGreat
