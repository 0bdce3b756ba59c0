/- LoanMany: runs by the kernel. -/
import Derived.Test.YtlkfclgkinaibaaGreatZLMT7
namespace Go.Proofs.YtlkfclgkinaibaaGreat
theorem dsA1 (keep : Nat) : GoodA 1 keep ∧ Round (runD (outH (runA 1 keep)) 1 1 keep) 1 1 keep := by
  constructor <;> (first | unfold GoodA | unfold Round) <;> kernel_rfl
theorem dsA2 (keep : Nat) : GoodA 2 keep ∧ Round (runD (outH (runA 2 keep)) 1 2 keep) 1 2 keep := by
  constructor <;> (first | unfold GoodA | unfold Round) <;> kernel_rfl
theorem dsA3 (keep : Nat) : GoodA 3 keep ∧ Round (runD (outH (runA 3 keep)) 1 3 keep) 1 3 keep := by
  constructor <;> (first | unfold GoodA | unfold Round) <;> kernel_rfl
theorem dsA4 (keep : Nat) : GoodA 4 keep ∧ Round (runD (outH (runA 4 keep)) 1 4 keep) 1 4 keep := by
  constructor <;> (first | unfold GoodA | unfold Round) <;> kernel_rfl
theorem dsA5 (keep : Nat) : GoodA 5 keep ∧ Round (runD (outH (runA 5 keep)) 1 5 keep) 1 5 keep := by
  constructor <;> (first | unfold GoodA | unfold Round) <;> kernel_rfl
theorem dsA6 (keep : Nat) : GoodA 6 keep ∧ Round (runD (outH (runA 6 keep)) 1 6 keep) 1 6 keep := by
  constructor <;> (first | unfold GoodA | unfold Round) <;> kernel_rfl
theorem dsA7 (keep : Nat) : GoodA 7 keep ∧ Round (runD (outH (runA 7 keep)) 1 7 keep) 1 7 keep := by
  constructor <;> (first | unfold GoodA | unfold Round) <;> kernel_rfl
theorem dsA8 (keep : Nat) : GoodA 8 keep ∧ Round (runD (outH (runA 8 keep)) 1 8 keep) 1 8 keep := by
  constructor <;> (first | unfold GoodA | unfold Round) <;> kernel_rfl
theorem dsA9 (keep : Nat) : GoodA 9 keep ∧ Round (runD (outH (runA 9 keep)) 1 9 keep) 1 9 keep := by
  constructor <;> (first | unfold GoodA | unfold Round) <;> kernel_rfl
theorem dsA10 (keep : Nat) : GoodA 10 keep ∧ Round (runD (outH (runA 10 keep)) 1 10 keep) 1 10 keep := by
  constructor <;> (first | unfold GoodA | unfold Round) <;> kernel_rfl
theorem dsA11 (keep : Nat) : GoodA 11 keep ∧ Round (runD (outH (runA 11 keep)) 1 11 keep) 1 11 keep := by
  constructor <;> (first | unfold GoodA | unfold Round) <;> kernel_rfl
theorem dsA12 (keep : Nat) : GoodA 12 keep ∧ Round (runD (outH (runA 12 keep)) 1 12 keep) 1 12 keep := by
  constructor <;> (first | unfold GoodA | unfold Round) <;> kernel_rfl
theorem dsA13 (keep : Nat) : GoodA 13 keep ∧ Round (runD (outH (runA 13 keep)) 1 13 keep) 1 13 keep := by
  constructor <;> (first | unfold GoodA | unfold Round) <;> kernel_rfl
theorem dsA14 (keep : Nat) : GoodA 14 keep ∧ Round (runD (outH (runA 14 keep)) 1 14 keep) 1 14 keep := by
  constructor <;> (first | unfold GoodA | unfold Round) <;> kernel_rfl
theorem dsA15 (keep : Nat) : GoodA 15 keep ∧ Round (runD (outH (runA 15 keep)) 1 15 keep) 1 15 keep := by
  constructor <;> (first | unfold GoodA | unfold Round) <;> kernel_rfl
end Go.Proofs.YtlkfclgkinaibaaGreat
