/- The examples of daemons, run. -/
import Derived.Test.YtlkfclgkinaibaaGreatZKDT7
namespace Go.Proofs.YtlkfclgkinaibaaGreat
theorem lives20T : trueD (progS hints kTabY tab.getK 60 (.f n_law20_lives) [] ⟨0, .leaf⟩) = true := by kernel_rfl
end Go.Proofs.YtlkfclgkinaibaaGreat
