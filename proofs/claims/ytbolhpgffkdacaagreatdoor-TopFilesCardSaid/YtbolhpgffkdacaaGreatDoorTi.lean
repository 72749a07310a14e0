/- The tie of the package variables that are laid to the program's text. Conditions: none. -/
import Derived.Test.YtbolhpgffkdacaaGreatDoorKn
import Derived.LaidByTextLater
set_option linter.unusedVariables false
set_option linter.unusedSimpArgs false
set_option linter.constructorNameAsVariable false
set_option linter.unusedSectionVars false
namespace Go.Proofs.YtbolhpgffkdacaaGreatDoor
open Go Go.Proofs Go.Proofs.YtbolhpgffkdacaaGreatDoor.Ev
set_option linter.unusedVariables false
set_option maxRecDepth 100000
set_option maxHeartbeats 0 in
theorem ti_g : (Tryz.prog.funcNamed "gosem.cut.vars").isSome = true := by kernel_rfl
set_option maxHeartbeats 0 in
theorem ti_w : Tryz.prog.worded (varsWordLater true) = true := by kernel_rfl
set_option maxHeartbeats 0 in
theorem ti_w2 : Tryz.prog.worded (varsWordLater !true) = false := by kernel_rfl
set_option maxHeartbeats 0 in
theorem ti_root : Tryz.prog.worded rootWordLater = true := by kernel_rfl
set_option maxHeartbeats 0 in
theorem ti_k : laid3.map (fun x => Tryz.prog.kindOfLater x.1) = [LaidKind.data, .data, .data].map some := by kernel_rfl
set_option maxHeartbeats 0 in
theorem ti_n : varsNamedLaterB Tryz.prog (varsId Tryz.prog) laid3 = true := by kernel_rfl
end Go.Proofs.YtbolhpgffkdacaaGreatDoor
