/- The law's own sum. -/
import Derived.Test.YtpedhlmcgilliaaWideB
set_option linter.unusedVariables false
namespace Go.Proofs.Ytpedhlmcgilliaa
open Go.RowKit
set_option maxHeartbeats 400000
end Go.Proofs.Ytpedhlmcgilliaa
