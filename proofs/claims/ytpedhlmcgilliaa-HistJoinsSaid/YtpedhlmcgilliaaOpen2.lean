/- Small lemmas on worlds. -/
import Derived.Test.YtpedhlmcgilliaaOpen
import Derived.Handy
set_option linter.unusedVariables false
namespace Go.Proofs.Ytpedhlmcgilliaa
open Go.RowKit
theorem below_drewN {B : Nat} {a w : World} (h : Below B a w) (n : Nat) : Below B a (w.drewN n) := ⟨h.os, h.tape, h.output, h.size, h.block⟩
end Go.Proofs.Ytpedhlmcgilliaa
