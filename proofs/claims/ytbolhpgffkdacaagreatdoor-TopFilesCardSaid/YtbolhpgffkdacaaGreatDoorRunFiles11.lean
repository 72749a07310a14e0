/- TopFiles, run by the kernel: a table of 12. Conditions: none. -/
import Derived.Test.YtbolhpgffkdacaaGreatDoorKFiles
import Derived.Test.YtbolhpgffkdacaaGreatDoorSm
set_option linter.unusedVariables false
set_option linter.unusedSimpArgs false
set_option linter.constructorNameAsVariable false
set_option linter.unusedSectionVars false
namespace Go.Proofs.YtbolhpgffkdacaaGreatDoor
open Go Go.Proofs Go.Proofs.YtbolhpgffkdacaaGreatDoor.Ev
set_option linter.unusedVariables false
set_option maxHeartbeats 0 in
theorem runFiles11 : runBH [] [(.var 0, 30, 11)] [5] 4 [V.s .i64 (.var 0)] = true := by kernel_rfl
end Go.Proofs.YtbolhpgffkdacaaGreatDoor
