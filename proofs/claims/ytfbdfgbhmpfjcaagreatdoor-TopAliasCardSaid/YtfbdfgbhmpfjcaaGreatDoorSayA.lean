/- Function 61, run by the kernel. Conditions: none. -/
import Derived.Test.YtfbdfgbhmpfjcaaGreatDoorRow
set_option linter.unusedVariables false
set_option linter.unusedSimpArgs false
set_option linter.constructorNameAsVariable false
set_option linter.unusedSectionVars false
namespace Go.Proofs.YtfbdfgbhmpfjcaaGreatDoor
open Go Go.Proofs Go.Proofs.YtfbdfgbhmpfjcaaGreatDoor.Ev
set_option maxHeartbeats 0 in
theorem runs61 : runG [] [] 61 = true := by kernel_rfl
set_option maxHeartbeats 0 in
theorem runs668 : runS [] 668 = true := by kernel_rfl
set_option maxHeartbeats 0 in
theorem runs619 : runS [668] 619 = true := by kernel_rfl
set_option maxHeartbeats 0 in
theorem runs543 : runS [619] 543 = true := by kernel_rfl
set_option maxHeartbeats 0 in
theorem runs288 : runS [543] 288 = true := by kernel_rfl
set_option maxHeartbeats 0 in
theorem runs672 : runS [288] 672 = true := by kernel_rfl
set_option maxHeartbeats 0 in
theorem runs626 : runS [672] 626 = true := by kernel_rfl
set_option maxHeartbeats 0 in
theorem runs678 : runS [626] 678 = true := by kernel_rfl
set_option maxHeartbeats 0 in
theorem runs669 : runS [678] 669 = true := by kernel_rfl
set_option maxHeartbeats 0 in
theorem runs623 : runS [669] 623 = true := by kernel_rfl
set_option maxHeartbeats 0 in
theorem runs550 : runS [623] 550 = true := by kernel_rfl
set_option maxHeartbeats 0 in
theorem runs553 : runS [] 553 = true := by kernel_rfl
set_option maxHeartbeats 0 in
theorem runs549 : runS [626, 553] 549 = true := by kernel_rfl
set_option maxHeartbeats 0 in
theorem runs290 : runS [550, 549] 290 = true := by kernel_rfl
set_option maxHeartbeats 0 in
theorem runs671 : runS [] 671 = true := by kernel_rfl
set_option maxHeartbeats 0 in
theorem runs625 : runS [671, 623] 625 = true := by kernel_rfl
set_option maxHeartbeats 0 in
theorem runs547 : runS [625] 547 = true := by kernel_rfl
set_option maxHeartbeats 0 in
theorem runs670 : runS [] 670 = true := by kernel_rfl
set_option maxHeartbeats 0 in
theorem runs624 : runS [670] 624 = true := by kernel_rfl
set_option maxHeartbeats 0 in
theorem runs552 : runS [] 552 = true := by kernel_rfl
set_option maxHeartbeats 0 in
theorem runs546 : runS [549, 624, 623, 552] 546 = true := by kernel_rfl
set_option maxHeartbeats 0 in
theorem runs289 : runS [547, 546] 289 = true := by kernel_rfl
set_option maxHeartbeats 0 in
theorem runs673 : runS [670, 619] 673 = true := by kernel_rfl
set_option maxHeartbeats 0 in
theorem runs627 : runS [673] 627 = true := by kernel_rfl
set_option maxHeartbeats 0 in
theorem runs551 : runS [627] 551 = true := by kernel_rfl
set_option maxHeartbeats 0 in
theorem runs291 : runS [553, 552, 551] 291 = true := by kernel_rfl
end Go.Proofs.YtfbdfgbhmpfjcaaGreatDoor
