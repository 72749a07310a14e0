/- Function 5, run by the kernel. Conditions: none. -/
import Derived.Test.YtbolhpgffkdacaaGreatDoorRow
set_option linter.unusedVariables false
set_option linter.unusedSimpArgs false
set_option linter.constructorNameAsVariable false
set_option linter.unusedSectionVars false
namespace Go.Proofs.YtbolhpgffkdacaaGreatDoor
open Go Go.Proofs Go.Proofs.YtbolhpgffkdacaaGreatDoor.Ev
set_option maxHeartbeats 0 in
theorem runs5 : runG [] [69] 5 = true := by kernel_rfl
end Go.Proofs.YtbolhpgffkdacaaGreatDoor
