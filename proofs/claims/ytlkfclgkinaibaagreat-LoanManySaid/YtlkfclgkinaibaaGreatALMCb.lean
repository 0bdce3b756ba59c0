/- LoanMany: runs by the kernel. -/
import Derived.Test.YtlkfclgkinaibaaGreatZLMT7
namespace Go.Proofs.YtlkfclgkinaibaaGreat
theorem dsA16 (keep : Nat) : GoodA 16 keep ∧ Round (runD (outH (runA 16 keep)) 1 16 keep) 1 16 keep := by
  constructor <;> (first | unfold GoodA | unfold Round) <;> kernel_rfl
theorem dsA17 (keep : Nat) : GoodA 17 keep ∧ Round (runD (outH (runA 17 keep)) 1 17 keep) 1 17 keep := by
  constructor <;> (first | unfold GoodA | unfold Round) <;> kernel_rfl
theorem dsA18 (keep : Nat) : GoodA 18 keep ∧ Round (runD (outH (runA 18 keep)) 1 18 keep) 1 18 keep := by
  constructor <;> (first | unfold GoodA | unfold Round) <;> kernel_rfl
theorem dsA19 (keep : Nat) : GoodA 19 keep ∧ Round (runD (outH (runA 19 keep)) 1 19 keep) 1 19 keep := by
  constructor <;> (first | unfold GoodA | unfold Round) <;> kernel_rfl
theorem dsA20 (keep : Nat) : GoodA 20 keep ∧ Round (runD (outH (runA 20 keep)) 1 20 keep) 1 20 keep := by
  constructor <;> (first | unfold GoodA | unfold Round) <;> kernel_rfl
theorem dsA21 (keep : Nat) : GoodA 21 keep ∧ Round (runD (outH (runA 21 keep)) 1 21 keep) 1 21 keep := by
  constructor <;> (first | unfold GoodA | unfold Round) <;> kernel_rfl
theorem dsA22 (keep : Nat) : GoodA 22 keep ∧ Round (runD (outH (runA 22 keep)) 1 22 keep) 1 22 keep := by
  constructor <;> (first | unfold GoodA | unfold Round) <;> kernel_rfl
theorem dsA23 (keep : Nat) : GoodA 23 keep ∧ Round (runD (outH (runA 23 keep)) 1 23 keep) 1 23 keep := by
  constructor <;> (first | unfold GoodA | unfold Round) <;> kernel_rfl
theorem dsA24 (keep : Nat) : GoodA 24 keep ∧ Round (runD (outH (runA 24 keep)) 1 24 keep) 1 24 keep := by
  constructor <;> (first | unfold GoodA | unfold Round) <;> kernel_rfl
theorem dsA25 (keep : Nat) : GoodA 25 keep ∧ Round (runD (outH (runA 25 keep)) 1 25 keep) 1 25 keep := by
  constructor <;> (first | unfold GoodA | unfold Round) <;> kernel_rfl
theorem dsA26 (keep : Nat) : GoodA 26 keep ∧ Round (runD (outH (runA 26 keep)) 1 26 keep) 1 26 keep := by
  constructor <;> (first | unfold GoodA | unfold Round) <;> kernel_rfl
theorem dsA27 (keep : Nat) : GoodA 27 keep ∧ Round (runD (outH (runA 27 keep)) 1 27 keep) 1 27 keep := by
  constructor <;> (first | unfold GoodA | unfold Round) <;> kernel_rfl
theorem dsA28 (keep : Nat) : GoodA 28 keep ∧ Round (runD (outH (runA 28 keep)) 1 28 keep) 1 28 keep := by
  constructor <;> (first | unfold GoodA | unfold Round) <;> kernel_rfl
theorem dsA29 (keep : Nat) : GoodA 29 keep ∧ Round (runD (outH (runA 29 keep)) 1 29 keep) 1 29 keep := by
  constructor <;> (first | unfold GoodA | unfold Round) <;> kernel_rfl
theorem dsA30 (keep : Nat) : GoodA 30 keep ∧ Round (runD (outH (runA 30 keep)) 1 30 keep) 1 30 keep := by
  constructor <;> (first | unfold GoodA | unfold Round) <;> kernel_rfl
end Go.Proofs.YtlkfclgkinaibaaGreat
