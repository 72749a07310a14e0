/- TopAlias, run by the kernel (the first number nought, or not). Conditions: none. -/
import Derived.Test.YtfbdfgbhmpfjcaaGreatDoorRow
set_option linter.unusedVariables false
set_option linter.unusedSimpArgs false
set_option linter.constructorNameAsVariable false
set_option linter.unusedSectionVars false
namespace Go.Proofs.YtfbdfgbhmpfjcaaGreatDoor
open Go Go.Proofs Go.Proofs.YtfbdfgbhmpfjcaaGreatDoor.Ev
def aAlias (r : Bool) : List As := [⟨.neq, .var 0, .lit 0, r⟩, ⟨.neq, .var 0, .var 0, false⟩, ⟨.neq, .var 1, .var 1, false⟩]
theorem asAlias (σ : Nat → Int) : AsOk σ (aAlias (σ 0 != 0)) := by
  intro x hx
  simp only [aAlias, List.mem_cons, List.not_mem_nil, or_false] at hx
  rcases hx with rfl | rfl | rfl <;> simp [cmpZ, SE.val]
set_option maxHeartbeats 0 in
theorem runAlias1 : runT (aAlias true) [7] 5 [V.s .i32 (.var 0), V.s .i32 (.var 1)] = true := by kernel_rfl
set_option maxHeartbeats 0 in
theorem runAlias0 : runT (aAlias false) [7] 5 [V.s .i32 (.var 0), V.s .i32 (.var 1)] = true := by kernel_rfl
end Go.Proofs.YtfbdfgbhmpfjcaaGreatDoor
