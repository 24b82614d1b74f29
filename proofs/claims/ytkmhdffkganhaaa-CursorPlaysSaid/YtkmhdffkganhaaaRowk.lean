/- Closed facts on the program. -/
import Derived.Test.YtkmhdffkganhaaaCB
import Derived.ProofKit
import Derived.OpenShut
namespace Go.Proofs.Ytkmhdffkganhaaa
open Go.ChangeShapes Go.WideShapes Go.ChangeAt Go.RowKit

theorem Try.own : ownKnob Try.prog.godebug = none := by kernel_rfl
theorem Try.laidOut : laidOutB Try.prog = true := by kernel_rfl
end Go.Proofs.Ytkmhdffkganhaaa
