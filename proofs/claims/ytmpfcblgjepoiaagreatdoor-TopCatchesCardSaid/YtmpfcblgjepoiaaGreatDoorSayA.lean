/- Function 675, run by the kernel. Conditions: none. -/
import Derived.Test.YtmpfcblgjepoiaaGreatDoorRow
set_option linter.unusedVariables false
set_option linter.unusedSimpArgs false
set_option linter.constructorNameAsVariable false
set_option linter.unusedSectionVars false
namespace Go.Proofs.YtmpfcblgjepoiaaGreatDoor
open Go Go.Proofs Go.Proofs.YtmpfcblgjepoiaaGreatDoor.Ev
set_option maxHeartbeats 0 in
theorem runs675 : runS [] 675 = true := by kernel_rfl
set_option maxHeartbeats 0 in
theorem runs640 : runS [675] 640 = true := by kernel_rfl
set_option maxHeartbeats 0 in
theorem runs602 : runS [640] 602 = true := by kernel_rfl
set_option maxHeartbeats 0 in
theorem runs490 : runS [602] 490 = true := by kernel_rfl
set_option maxHeartbeats 0 in
theorem runs679 : runS [490] 679 = true := by kernel_rfl
set_option maxHeartbeats 0 in
theorem runs644 : runS [679] 644 = true := by kernel_rfl
set_option maxHeartbeats 0 in
theorem runs683 : runS [644] 683 = true := by kernel_rfl
set_option maxHeartbeats 0 in
theorem runs676 : runS [683] 676 = true := by kernel_rfl
set_option maxHeartbeats 0 in
theorem runs641 : runS [676] 641 = true := by kernel_rfl
set_option maxHeartbeats 0 in
theorem runs611 : runS [] 611 = true := by kernel_rfl
set_option maxHeartbeats 0 in
theorem runs677 : runS [] 677 = true := by kernel_rfl
set_option maxHeartbeats 0 in
theorem runs642 : runS [677] 642 = true := by kernel_rfl
set_option maxHeartbeats 0 in
theorem runs612 : runS [] 612 = true := by kernel_rfl
set_option maxHeartbeats 0 in
theorem runs608 : runS [644, 612] 608 = true := by kernel_rfl
set_option maxHeartbeats 0 in
theorem runs605 : runS [641, 611, 642, 608] 605 = true := by kernel_rfl
set_option maxHeartbeats 0 in
theorem runs678 : runS [] 678 = true := by kernel_rfl
set_option maxHeartbeats 0 in
theorem runs643 : runS [641, 678] 643 = true := by kernel_rfl
set_option maxHeartbeats 0 in
theorem runs606 : runS [643] 606 = true := by kernel_rfl
set_option maxHeartbeats 0 in
theorem runs491 : runS [605, 606] 491 = true := by kernel_rfl
set_option maxHeartbeats 0 in
theorem runs609 : runS [641] 609 = true := by kernel_rfl
set_option maxHeartbeats 0 in
theorem runs492 : runS [608, 609] 492 = true := by kernel_rfl
set_option maxHeartbeats 0 in
theorem runs680 : runS [677, 640] 680 = true := by kernel_rfl
set_option maxHeartbeats 0 in
theorem runs645 : runS [680] 645 = true := by kernel_rfl
set_option maxHeartbeats 0 in
theorem runs610 : runS [645] 610 = true := by kernel_rfl
set_option maxHeartbeats 0 in
theorem runs493 : runS [610, 611, 612] 493 = true := by kernel_rfl
set_option maxHeartbeats 0 in
theorem runs242 : runG [] [] 242 = true := by kernel_rfl
end Go.Proofs.YtmpfcblgjepoiaaGreatDoor
