/- What the form says of int, for slices that are made. -/
import Derived.Test.YtpedhlmcgilliaaLists
namespace Go.Proofs.Ytpedhlmcgilliaa
theorem Try.infoI64 : (Try.prog.info? 3).map (fun i => (i.zero, i.size, i.bytes)) = some (some (.int .i64 0), 1, 8) := by kernel_rfl
end Go.Proofs.Ytpedhlmcgilliaa
