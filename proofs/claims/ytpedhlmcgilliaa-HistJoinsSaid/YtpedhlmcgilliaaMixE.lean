/- mix.Text: a text mixed under a key. -/
import Derived.Test.YtpedhlmcgilliaaMixD
import Derived.Test.YtpedhlmcgilliaaTextPlain
set_option linter.unusedVariables false
namespace Go.Proofs.Ytpedhlmcgilliaa
open Go.RowKit
set_option maxHeartbeats 400000
def mixText (key : Int) (b : List UInt8) : Int := mixOne (bits .xor .u64 (mixOf key (textInts b)) (b.length : Nat))
end Go.Proofs.Ytpedhlmcgilliaa
