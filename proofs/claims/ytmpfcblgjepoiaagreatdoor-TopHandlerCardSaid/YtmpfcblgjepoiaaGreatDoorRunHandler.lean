/- TopHandler, run by the kernel (the number nought, minus one, another). Conditions: none. -/
import Derived.Test.YtmpfcblgjepoiaaGreatDoorRow
set_option linter.unusedVariables false
set_option linter.unusedSimpArgs false
set_option linter.constructorNameAsVariable false
set_option linter.unusedSectionVars false
namespace Go.Proofs.YtmpfcblgjepoiaaGreatDoor
open Go Go.Proofs Go.Proofs.YtmpfcblgjepoiaaGreatDoor.Ev
set_option linter.unusedVariables false
def quoH : SE := .bin .quo .i32 (.lit 8) (.var 0)
def aHandler : List As := [⟨.eql, .var 0, .lit 0, false⟩, ⟨.eql, .var 0, .lit (-1), false⟩, ⟨.neq, quoH, quoH, false⟩]
theorem asHandler (σ : Nat → Int) (h0 : ¬ σ 0 = 0) (h1 : ¬ σ 0 = -1) : AsOk σ aHandler := by
  intro x hx
  simp only [aHandler, List.mem_cons, List.not_mem_nil, or_false] at hx
  rcases hx with rfl | rfl | rfl
  · show (σ 0 == 0) = false
    simpa using h0
  · show (σ 0 == -1) = false
    simpa using h1
  · show (quoH.val σ != quoH.val σ) = false
    simp
set_option maxHeartbeats 0 in
theorem runHandler : runT aHandler [8] 4 [V.s .i32 (.var 0)] = true := by kernel_rfl
set_option maxHeartbeats 0 in
theorem runHandler0 : runT [] [8] 4 [V.i .i32 0] = true := by kernel_rfl
set_option maxHeartbeats 0 in
theorem runHandler1 : runT [] [8] 4 [V.i .i32 (-1)] = true := by kernel_rfl
end Go.Proofs.YtmpfcblgjepoiaaGreatDoor
