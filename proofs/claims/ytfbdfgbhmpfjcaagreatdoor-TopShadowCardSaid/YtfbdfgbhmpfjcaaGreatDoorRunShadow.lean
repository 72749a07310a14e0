/- TopShadow, run by the kernel. Conditions: none. -/
import Derived.Test.YtfbdfgbhmpfjcaaGreatDoorRow
set_option linter.unusedVariables false
set_option linter.unusedSimpArgs false
set_option linter.constructorNameAsVariable false
set_option linter.unusedSectionVars false
namespace Go.Proofs.YtfbdfgbhmpfjcaaGreatDoor
open Go Go.Proofs Go.Proofs.YtfbdfgbhmpfjcaaGreatDoor.Ev
def aShadow : List As := [⟨.neq, .bin .add .i32 (.bin .sub .i32 (.var 0) (.var 1)) (.lit 0), .bin .sub .i32 (.var 0) (.var 1), false⟩, ⟨.neq, .var 0, .var 0, false⟩, ⟨.neq, .var 1, .var 1, false⟩]
theorem wrap_wrap (k : IntKind) (z : Int) : k.wrap (k.wrap z) = k.wrap z := by
  cases k <;> simp only [IntKind.wrap, IntKind.bits, IntKind.signed] <;> simp <;> omega
theorem asShadow (σ : Nat → Int) : AsOk σ aShadow := by
  intro x hx
  simp only [aShadow, List.mem_cons, List.not_mem_nil, or_false] at hx
  rcases hx with rfl | rfl | rfl <;> simp [cmpZ, SE.val, binZ, wrap_wrap]
set_option maxHeartbeats 0 in
theorem runShadow : runT aShadow [7] 4 [V.s .i32 (.var 0), V.s .i32 (.var 1)] = true := by kernel_rfl
end Go.Proofs.YtfbdfgbhmpfjcaaGreatDoor
