/- Facts of the whole program. Conditions: none. -/
import Derived.Test.YtbolhpgffkdacaaGreatDoorRow
import Derived.JoinedOf
import GoSem.ClaimSeven
set_option linter.unusedVariables false
set_option linter.unusedSimpArgs false
set_option linter.constructorNameAsVariable false
set_option linter.unusedSectionVars false
namespace Go.Proofs.YtbolhpgffkdacaaGreatDoor
open Go Go.Proofs Go.Proofs.YtbolhpgffkdacaaGreatDoor.Ev
set_option maxRecDepth 100000
set_option maxHeartbeats 0 in
theorem fa_row : (List.range Tryz.prog.types.size).all (rowFine Tryz.prog) = true := by kernel_rfl
set_option maxHeartbeats 0 in
theorem fa_glo : Tryz.prog.globals.all (fun g => decide (g.type < Tryz.prog.types.size)) = true := by kernel_rfl
set_option maxHeartbeats 0 in
theorem fa_par : Tryz.prog.funcs.all (fun f => f.params.all fun t => decide (t < Tryz.prog.types.size)) = true := by kernel_rfl
theorem fa_out : laidOutB Tryz.prog = true := by
  unfold laidOutB
  rw [fa_row, fa_glo, fa_par]
  rfl
set_option maxHeartbeats 0 in
theorem fa_map : mapsRowed Tryz.prog = true := by kernel_rfl
set_option maxHeartbeats 0 in
theorem fa_key : Tryz.prog.plainKeys = true := by kernel_rfl
set_option maxHeartbeats 0 in
theorem fa_heard : Tryz.prog.stopsHeard = true := by kernel_rfl
set_option maxHeartbeats 0 in
theorem fa_enter : Tryz.prog.mayEnter = true := by kernel_rfl
set_option maxHeartbeats 0 in
theorem fa_stops : ((Tryz.prog.stops == []) && (Tryz.prog.stopKnobs == [])) = true := by kernel_rfl
set_option maxHeartbeats 0 in
theorem fa_looks : true = Tryz.prog.looks [] := by kernel_rfl
theorem fa_unsafe : Tryz.prog.headLifts.contains "ownunsafe" = false := by kernel_rfl
theorem fa_stand : Tryz.prog.wantsStandIn 21 = false := by kernel_rfl
end Go.Proofs.YtbolhpgffkdacaaGreatDoor
