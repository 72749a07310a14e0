/- TopCatches, run by the kernel: traps in order 3. Conditions: none. -/
import Derived.Test.YtmpfcblgjepoiaaGreatDoorSm
set_option linter.unusedVariables false
set_option linter.unusedSimpArgs false
set_option linter.constructorNameAsVariable false
set_option linter.unusedSectionVars false
namespace Go.Proofs.YtmpfcblgjepoiaaGreatDoor
open Go Go.Proofs Go.Proofs.YtmpfcblgjepoiaaGreatDoor.Ev
set_option linter.unusedVariables false
set_option maxHeartbeats 0 in
theorem runCatches30 : runB [] [(.var 0, 4, 3), (.var 1, 2, 0)] [8] 3 [V.s .i64 (.var 0), V.s .i64 (.var 1)] = true := by kernel_rfl
set_option maxHeartbeats 0 in
theorem runCatches31 : runB [] [(.var 0, 4, 3), (.var 1, 2, 1)] [8] 3 [V.s .i64 (.var 0), V.s .i64 (.var 1)] = true := by kernel_rfl
end Go.Proofs.YtmpfcblgjepoiaaGreatDoor
