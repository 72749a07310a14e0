/- TopBelow, run by the kernel (each of three classes). Conditions: none. -/
import Derived.Test.YtmpfcblgjepoiaaGreatDoorSm
set_option linter.unusedVariables false
set_option linter.unusedSimpArgs false
set_option linter.constructorNameAsVariable false
set_option linter.unusedSectionVars false
namespace Go.Proofs.YtmpfcblgjepoiaaGreatDoor
open Go Go.Proofs Go.Proofs.YtmpfcblgjepoiaaGreatDoor.Ev
set_option linter.unusedVariables false
def oneB : SE := .bin .add .i32 (.var 0) (.lit 1)
def nulB : SE := .bin .add .i32 oneB (.lit 0)
def tenB (e : SE) : SE := .bin .mul .i32 e (.lit 10)
def aBelow : List As := [⟨.neq, nulB, oneB, false⟩, ⟨.neq, tenB nulB, tenB oneB, false⟩]
theorem wrap_wrap (k : IntKind) (z : Int) : k.wrap (k.wrap z) = k.wrap z := by
  cases k <;> simp only [IntKind.wrap, IntKind.bits, IntKind.signed] <;> simp <;> omega
theorem nulB_val (σ : Nat → Int) : nulB.val σ = oneB.val σ := by
  show IntKind.wrap .i32 (IntKind.wrap .i32 (σ 0 + 1) + 0) = IntKind.wrap .i32 (σ 0 + 1)
  rw [Int.add_zero, wrap_wrap]
theorem asBelow (σ : Nat → Int) : AsOk σ aBelow := by
  intro x hx
  simp only [aBelow, List.mem_cons, List.not_mem_nil, or_false] at hx
  rcases hx with rfl | rfl
  · show (nulB.val σ != oneB.val σ) = false
    rw [nulB_val]
    simp
  · show (IntKind.wrap .i32 (nulB.val σ * 10) != IntKind.wrap .i32 (oneB.val σ * 10)) = false
    rw [nulB_val]
    simp
set_option maxHeartbeats 0 in
theorem runBelow0 : runB aBelow [(.var 1, 3, 0)] [8] 7 [V.s .i32 (.var 0), V.s .i64 (.var 1)] = true := by kernel_rfl
set_option maxHeartbeats 0 in
theorem runBelow1 : runB aBelow [(.var 1, 3, 1)] [8] 7 [V.s .i32 (.var 0), V.s .i64 (.var 1)] = true := by kernel_rfl
set_option maxHeartbeats 0 in
theorem runBelow2 : runB aBelow [(.var 1, 3, 2)] [8] 7 [V.s .i32 (.var 0), V.s .i64 (.var 1)] = true := by kernel_rfl
end Go.Proofs.YtmpfcblgjepoiaaGreatDoor
