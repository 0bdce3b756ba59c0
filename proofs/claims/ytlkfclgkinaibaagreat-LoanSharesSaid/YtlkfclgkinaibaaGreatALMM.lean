/- The examples, run. -/
import Derived.Test.YtlkfclgkinaibaaGreatZLST6
namespace Go.Proofs.YtlkfclgkinaibaaGreat
theorem livesT : trueD (progS hints kTabY tab.getK 60 (.f n_law19_lives) [] ⟨0, .leaf⟩) = true := by kernel_rfl
end Go.Proofs.YtlkfclgkinaibaaGreat
