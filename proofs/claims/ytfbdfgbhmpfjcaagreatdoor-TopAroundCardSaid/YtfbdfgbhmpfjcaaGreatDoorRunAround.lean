/- TopAround, run by the kernel. Conditions: none. -/
import Derived.Test.YtfbdfgbhmpfjcaaGreatDoorRow
set_option linter.unusedVariables false
set_option linter.unusedSimpArgs false
set_option linter.constructorNameAsVariable false
set_option linter.unusedSectionVars false
namespace Go.Proofs.YtfbdfgbhmpfjcaaGreatDoor
open Go Go.Proofs Go.Proofs.YtfbdfgbhmpfjcaaGreatDoor.Ev
def aAround : List As := [⟨.neq, .bin .mul .i32 (.var 0) (.var 0), .bin .mul .i32 (.var 0) (.var 0), false⟩, ⟨.neq, .bin .sub .i32 (.lit 0) (.var 0), .bin .sub .i32 (.lit 0) (.var 0), false⟩]
theorem asAround (σ : Nat → Int) : AsOk σ aAround := by
  intro x hx
  simp only [aAround, List.mem_cons, List.not_mem_nil, or_false] at hx
  rcases hx with rfl | rfl <;> simp [cmpZ]
set_option maxHeartbeats 0 in
theorem runAround : runT aAround [7] 6 [V.s .i32 (.var 0)] = true := by kernel_rfl
end Go.Proofs.YtfbdfgbhmpfjcaaGreatDoor
