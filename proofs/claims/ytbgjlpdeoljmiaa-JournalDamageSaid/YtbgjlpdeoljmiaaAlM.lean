/- The chapter's example holds. No condition. -/
import Derived.Test.YtbgjlpdeoljmiaaM4
namespace Go.Proofs.Ytbgjlpdeoljmiaa
set_option maxRecDepth 1000000
theorem alive_t : f11 = some true := by kernel_rfl
end Go.Proofs.Ytbgjlpdeoljmiaa
