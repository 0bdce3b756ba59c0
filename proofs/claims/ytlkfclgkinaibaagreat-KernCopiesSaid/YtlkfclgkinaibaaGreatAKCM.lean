/- The examples, run. -/
import Derived.Test.YtlkfclgkinaibaaGreatZKCT7
namespace Go.Proofs.YtlkfclgkinaibaaGreat
theorem livesT : trueD (progS hints kTabY tab.getK 60 (.f n_law18_lives) [] ⟨0, .leaf⟩) = true := by kernel_rfl
end Go.Proofs.YtlkfclgkinaibaaGreat
