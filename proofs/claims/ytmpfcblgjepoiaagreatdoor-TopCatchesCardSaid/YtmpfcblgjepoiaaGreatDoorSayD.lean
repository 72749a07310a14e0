/- Function 8, run by the kernel. Conditions: none. -/
import Derived.Test.YtmpfcblgjepoiaaGreatDoorRow
set_option linter.unusedVariables false
set_option linter.unusedSimpArgs false
set_option linter.constructorNameAsVariable false
set_option linter.unusedSectionVars false
namespace Go.Proofs.YtmpfcblgjepoiaaGreatDoor
open Go Go.Proofs Go.Proofs.YtmpfcblgjepoiaaGreatDoor.Ev
set_option maxHeartbeats 0 in
theorem runs8 : runG [] [72] 8 = true := by kernel_rfl
end Go.Proofs.YtmpfcblgjepoiaaGreatDoor
