/- Function 672, run by the kernel. Conditions: none. -/
import Derived.Test.YtbolhpgffkdacaaGreatDoorRow
set_option linter.unusedVariables false
set_option linter.unusedSimpArgs false
set_option linter.constructorNameAsVariable false
set_option linter.unusedSectionVars false
namespace Go.Proofs.YtbolhpgffkdacaaGreatDoor
open Go Go.Proofs Go.Proofs.YtbolhpgffkdacaaGreatDoor.Ev
set_option maxHeartbeats 0 in
theorem runs672 : runS [] 672 = true := by kernel_rfl
set_option maxHeartbeats 0 in
theorem runs637 : runS [672] 637 = true := by kernel_rfl
set_option maxHeartbeats 0 in
theorem runs599 : runS [637] 599 = true := by kernel_rfl
set_option maxHeartbeats 0 in
theorem runs487 : runS [599] 487 = true := by kernel_rfl
set_option maxHeartbeats 0 in
theorem runs676 : runS [487] 676 = true := by kernel_rfl
set_option maxHeartbeats 0 in
theorem runs641 : runS [676] 641 = true := by kernel_rfl
set_option maxHeartbeats 0 in
theorem runs680 : runS [641] 680 = true := by kernel_rfl
set_option maxHeartbeats 0 in
theorem runs673 : runS [680] 673 = true := by kernel_rfl
set_option maxHeartbeats 0 in
theorem runs638 : runS [673] 638 = true := by kernel_rfl
set_option maxHeartbeats 0 in
theorem runs608 : runS [] 608 = true := by kernel_rfl
set_option maxHeartbeats 0 in
theorem runs674 : runS [] 674 = true := by kernel_rfl
set_option maxHeartbeats 0 in
theorem runs639 : runS [674] 639 = true := by kernel_rfl
set_option maxHeartbeats 0 in
theorem runs609 : runS [] 609 = true := by kernel_rfl
set_option maxHeartbeats 0 in
theorem runs605 : runS [641, 609] 605 = true := by kernel_rfl
set_option maxHeartbeats 0 in
theorem runs602 : runS [638, 608, 639, 605] 602 = true := by kernel_rfl
set_option maxHeartbeats 0 in
theorem runs675 : runS [] 675 = true := by kernel_rfl
set_option maxHeartbeats 0 in
theorem runs640 : runS [638, 675] 640 = true := by kernel_rfl
set_option maxHeartbeats 0 in
theorem runs603 : runS [640] 603 = true := by kernel_rfl
set_option maxHeartbeats 0 in
theorem runs488 : runS [602, 603] 488 = true := by kernel_rfl
set_option maxHeartbeats 0 in
theorem runs606 : runS [638] 606 = true := by kernel_rfl
set_option maxHeartbeats 0 in
theorem runs489 : runS [605, 606] 489 = true := by kernel_rfl
set_option maxHeartbeats 0 in
theorem runs677 : runS [674, 637] 677 = true := by kernel_rfl
set_option maxHeartbeats 0 in
theorem runs642 : runS [677] 642 = true := by kernel_rfl
set_option maxHeartbeats 0 in
theorem runs607 : runS [642] 607 = true := by kernel_rfl
set_option maxHeartbeats 0 in
theorem runs490 : runS [607, 608, 609] 490 = true := by kernel_rfl
set_option maxHeartbeats 0 in
theorem runs239 : runG [] [] 239 = true := by kernel_rfl
end Go.Proofs.YtbolhpgffkdacaaGreatDoor
