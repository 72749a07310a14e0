/- TopOnce, run by the kernel (late, or not). Conditions: none. -/
import Derived.Test.YtmpfcblgjepoiaaGreatDoorRow
set_option linter.unusedVariables false
set_option linter.unusedSimpArgs false
set_option linter.constructorNameAsVariable false
set_option linter.unusedSectionVars false
namespace Go.Proofs.YtmpfcblgjepoiaaGreatDoor
open Go Go.Proofs Go.Proofs.YtmpfcblgjepoiaaGreatDoor.Ev
set_option linter.unusedVariables false
def aOnce : List As := [⟨.neq, .var 0, .var 0, false⟩]
theorem asOnce (σ : Nat → Int) : AsOk σ aOnce := by
  intro x hx
  simp only [aOnce, List.mem_cons, List.not_mem_nil, or_false] at hx
  subst hx
  simp [cmpZ]
set_option maxHeartbeats 0 in
theorem runOnceF : runT aOnce [8] 5 [V.s .i32 (.var 0), V.b false] = true := by kernel_rfl
set_option maxHeartbeats 0 in
theorem runOnceT : runT aOnce [8] 5 [V.s .i32 (.var 0), V.b true] = true := by kernel_rfl
end Go.Proofs.YtmpfcblgjepoiaaGreatDoor
