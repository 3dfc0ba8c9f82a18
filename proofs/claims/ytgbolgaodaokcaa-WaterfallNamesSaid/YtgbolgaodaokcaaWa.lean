/- Waterfall: the chapter's example, and the limits and errors, reckoned. No condition. -/
import Derived.Test.YtgbolgaodaokcaaW10
import Derived.Test.YtgbolgaodaokcaaTU
namespace Go.Proofs.Ytgbolgaodaokcaa
set_option maxRecDepth 100000
theorem lawNames : f9 = some true := by kernel_rfl
end Go.Proofs.Ytgbolgaodaokcaa
