/- Function 7, run by the kernel. Conditions: none. -/
import Derived.Test.YtfbdfgbhmpfjcaaGreatDoorRow
set_option linter.unusedVariables false
set_option linter.unusedSimpArgs false
set_option linter.constructorNameAsVariable false
set_option linter.unusedSectionVars false
namespace Go.Proofs.YtfbdfgbhmpfjcaaGreatDoor
open Go Go.Proofs Go.Proofs.YtfbdfgbhmpfjcaaGreatDoor.Ev
set_option maxHeartbeats 0 in
theorem runs7 : runG [] [22] 7 = true := by kernel_rfl
end Go.Proofs.YtfbdfgbhmpfjcaaGreatDoor
