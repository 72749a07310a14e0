/- TopCatches, all runs. Conditions: none. -/
import Derived.Test.YtmpfcblgjepoiaaGreatDoorRunCatches0
import Derived.Test.YtmpfcblgjepoiaaGreatDoorRunCatches1
import Derived.Test.YtmpfcblgjepoiaaGreatDoorRunCatches2
import Derived.Test.YtmpfcblgjepoiaaGreatDoorRunCatches3
set_option linter.unusedVariables false
set_option linter.unusedSimpArgs false
set_option linter.constructorNameAsVariable false
set_option linter.unusedSectionVars false
namespace Go.Proofs.YtmpfcblgjepoiaaGreatDoor
open Go Go.Proofs Go.Proofs.YtmpfcblgjepoiaaGreatDoor.Ev
end Go.Proofs.YtmpfcblgjepoiaaGreatDoor
