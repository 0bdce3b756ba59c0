/- LoanMany: runs by the kernel. -/
import Derived.Test.YtlkfclgkinaibaaGreatZLMT7
namespace Go.Proofs.YtlkfclgkinaibaaGreat
theorem dsD1 (d keep : Nat) : Round (runD (HL (d + 2) 1) 2 (d + 2) keep) 2 (d + 2) keep := by
  unfold Round
  kernel_rfl
theorem dsD2 (d keep : Nat) : Round (runD (HL (d + 3) 2) 3 (d + 3) keep) 3 (d + 3) keep := by
  unfold Round
  kernel_rfl
theorem dsD3 (d keep : Nat) : Round (runD (HL (d + 4) 3) 4 (d + 4) keep) 4 (d + 4) keep := by
  unfold Round
  kernel_rfl
theorem dsD4 (d keep : Nat) : Round (runD (HL (d + 5) 4) 5 (d + 5) keep) 5 (d + 5) keep := by
  unfold Round
  kernel_rfl
theorem dsD5 (d keep : Nat) : Round (runD (HL (d + 6) 5) 6 (d + 6) keep) 6 (d + 6) keep := by
  unfold Round
  kernel_rfl
theorem dsD6 (d keep : Nat) : Round (runD (HL (d + 7) 6) 7 (d + 7) keep) 7 (d + 7) keep := by
  unfold Round
  kernel_rfl
theorem dsD7 (d keep : Nat) : Round (runD (HL (d + 8) 7) 8 (d + 8) keep) 8 (d + 8) keep := by
  unfold Round
  kernel_rfl
theorem dsD8 (d keep : Nat) : Round (runD (HL (d + 9) 8) 9 (d + 9) keep) 9 (d + 9) keep := by
  unfold Round
  kernel_rfl
theorem dsD9 (d keep : Nat) : Round (runD (HL (d + 10) 9) 10 (d + 10) keep) 10 (d + 10) keep := by
  unfold Round
  kernel_rfl
theorem dsD10 (d keep : Nat) : Round (runD (HL (d + 11) 10) 11 (d + 11) keep) 11 (d + 11) keep := by
  unfold Round
  kernel_rfl
theorem dsD11 (d keep : Nat) : Round (runD (HL (d + 12) 11) 12 (d + 12) keep) 12 (d + 12) keep := by
  unfold Round
  kernel_rfl
theorem dsD12 (d keep : Nat) : Round (runD (HL (d + 13) 12) 13 (d + 13) keep) 13 (d + 13) keep := by
  unfold Round
  kernel_rfl
theorem dsD13 (d keep : Nat) : Round (runD (HL (d + 14) 13) 14 (d + 14) keep) 14 (d + 14) keep := by
  unfold Round
  kernel_rfl
theorem dsD14 (d keep : Nat) : Round (runD (HL (d + 15) 14) 15 (d + 15) keep) 15 (d + 15) keep := by
  unfold Round
  kernel_rfl
theorem dsD15 (d keep : Nat) : Round (runD (HL (d + 16) 15) 16 (d + 16) keep) 16 (d + 16) keep := by
  unfold Round
  kernel_rfl
theorem dsD16 (d keep : Nat) : Round (runD (HL (d + 17) 16) 17 (d + 17) keep) 17 (d + 17) keep := by
  unfold Round
  kernel_rfl
theorem dsD17 (d keep : Nat) : Round (runD (HL (d + 18) 17) 18 (d + 18) keep) 18 (d + 18) keep := by
  unfold Round
  kernel_rfl
theorem dsD18 (d keep : Nat) : Round (runD (HL (d + 19) 18) 19 (d + 19) keep) 19 (d + 19) keep := by
  unfold Round
  kernel_rfl
end Go.Proofs.YtlkfclgkinaibaaGreat
