/- The tie of the package variables: what the program's own initialisers lay. Conditions: none. -/
import Derived.Test.YtbolhpgffkdacaaGreatDoorTi
set_option linter.unusedVariables false
set_option linter.unusedSimpArgs false
set_option linter.constructorNameAsVariable false
set_option linter.unusedSectionVars false
namespace Go.Proofs.YtbolhpgffkdacaaGreatDoor
open Go Go.Proofs Go.Proofs.YtbolhpgffkdacaaGreatDoor.Ev
set_option linter.unusedVariables false
set_option maxRecDepth 100000
set_option maxHeartbeats 0 in
theorem ti_d : ∀ (os : Os) (tape : Tape), varsDone Tryz.prog 400 (varsId Tryz.prog) os tape = true := fun _ _ => by kernel_rfl
set_option maxHeartbeats 0 in
theorem ti_1 : ∀ (os : Os) (tape : Tape), (DataW.laidRun Tryz.prog (varsWorld Tryz.prog 400 (varsId Tryz.prog) os tape).memory 8 (laid3.map (·.1))).map (·.1) = some laid3 := fun _ _ => by kernel_rfl
set_option maxHeartbeats 0 in
theorem ti_2 : ∀ (os : Os) (tape : Tape), (DataW.laidRun Tryz.prog (varsWorld Tryz.prog 400 (varsId Tryz.prog) os tape).memory 8 (laid3.map (·.1))).map (fun x => decide x.2.Nodup && laidRowsB Tryz.prog (varsWorld Tryz.prog 400 (varsId Tryz.prog) os tape).memory x.2) = some true := fun _ _ => by kernel_rfl
theorem tie3 : Tryz.prog.laidByTextLater laid3 [.data, .data, .data] true :=
  Program.laidByTextLater_by_run 400 8 ti_w ti_w2 ti_root ti_k ti_g ti_n ti_d ti_1 ti_2 (by kernel_rfl)
end Go.Proofs.YtbolhpgffkdacaaGreatDoor
