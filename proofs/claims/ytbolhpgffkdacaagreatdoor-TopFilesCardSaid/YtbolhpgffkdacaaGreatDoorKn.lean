/- The laid package variables, as the rows list them. Conditions: none. -/
import Derived.Test.YtbolhpgffkdacaaGreatDoorRows
import Derived.Test.YtbolhpgffkdacaaGreatDoorRow
import Derived.Test.YtbolhpgffkdacaaGreatDoorEvC
import Derived.MakeChecks
import Derived.Stop.LaidErr
import Derived.ChangeSame
import Derived.LaidLaws
import Derived.LaidHandle
set_option linter.unusedVariables false
set_option linter.unusedSimpArgs false
set_option linter.constructorNameAsVariable false
set_option linter.unusedSectionVars false
namespace Go.Proofs.YtbolhpgffkdacaaGreatDoor
open Go Go.Proofs Go.Proofs.YtbolhpgffkdacaaGreatDoor.Ev
abbrev laid3 : List (String × DataW Unit) := Rows.topStackRow.laid
abbrev vname (i : Nat) : String := (laid3.map (·.1)).getD i ""
set_option linter.unusedVariables false
set_option maxRecDepth 100000
theorem glo0 : Tryz.prog.globalNamed (vname 0) = some 1 := by kernel_rfl
theorem glo2 : Tryz.prog.globalNamed (vname 1) = some 2 := by kernel_rfl
theorem glo3 : Tryz.prog.globalNamed (vname 2) = some 3 := by kernel_rfl
theorem gty0 : (Tryz.prog.globals[1]?).map (·.type) = some 545 := by kernel_rfl
theorem gty2 : (Tryz.prog.globals[2]?).map (·.type) = some 557 := by kernel_rfl
theorem gty3 : (Tryz.prog.globals[3]?).map (·.type) = some 558 := by kernel_rfl
theorem cel536 : Tryz.prog.cellsOf 545 = 20 := by kernel_rfl
theorem cel552 : Tryz.prog.cellsOf 557 = 32 := by kernel_rfl
theorem cel553 : Tryz.prog.cellsOf 558 = 64 := by kernel_rfl
theorem cel401 : Tryz.prog.cellsOf 164 = 1 := by kernel_rfl
theorem cel5 : Tryz.prog.cellsOf 5 = 1 := by kernel_rfl
theorem met_of {r : OpenClaim} (hr : r.laid = laid3) {W : World} (h : laidMetH Tryz.prog r.laid W) : laidMet Tryz.prog laid3 W := by
  rw [hr, MakeChecks.laidMetH_plain _ _ _ (by kernel_rfl)] at h
  exact h
theorem known_of {W : World} (h : laidMet Tryz.prog laid3 W) : Known kG W ∧ ngl ≤ W.heap.size := by
  have t0 := Lib.tabIs_of_head (k := .u64) (zs := (kG[0]'(by decide)).l) glo0 gty0 Tryz.underlying545 Tryz.underlying164 cel401 cel536 h
  have h1 := laidMet.tail h
  have t2 := Lib.tabIs_of_head (k := .u8) (zs := (kG[1]'(by decide)).l) glo2 gty2 Tryz.underlying557 Tryz.underlying5 cel5 cel552 h1
  have h2 := laidMet.tail h1
  have t3 := Lib.tabIs_of_head (k := .u8) (zs := (kG[2]'(by decide)).l) glo3 gty3 Tryz.underlying558 Tryz.underlying5 cel5 cel553 h2
  have k0 := tab_known glo0 t0
  have k2 := tab_known glo2 t2
  have k3 := tab_known glo3 t3
  refine ⟨fun q hq => ?_, ?_⟩
  · simp only [kG, List.mem_cons, List.not_mem_nil, or_false] at hq
    rcases hq with rfl | rfl | rfl
    · exact k0
    · exact k2
    · exact k3
  · obtain ⟨_, _, _, _, e, _⟩ := k3
    exact (Array.getElem?_eq_some_iff.1 e).1
set_option linter.unusedVariables false
set_option maxRecDepth 100000
/-- A block of integers. -/
noncomputable def layO (k : IntKind) (l : List Int) : Obj → Obj
  | .cells _ t fr => .cells (l.map (Value.int k)).toArray t fr
  | o => o
noncomputable def laidW (os : Os) : World :=
  let w0 := World.holding Tryz.prog os ⟨#[], #[], []⟩
  { w0 with heap := ((w0.heap.modify 1 (layO .u64 (kG[0]'(by decide)).l)).modify 2 (layO .u8 (kG[1]'(by decide)).l)).modify 3 (layO .u8 (kG[2]'(by decide)).l) }
set_option maxHeartbeats 0 in
theorem laidW_run1 (os : Os) (args : Array Value) : (DataW.laidRun Tryz.prog ((laidW os).forCall (fun _ _ => 0) ⟨#[], args, []⟩).memory 8 (laid3.map (·.1))).map (·.1) = some laid3 := by kernel_rfl
set_option maxHeartbeats 0 in
theorem laidW_run2 (os : Os) (args : Array Value) : (DataW.laidRun Tryz.prog ((laidW os).forCall (fun _ _ => 0) ⟨#[], args, []⟩).memory 8 (laid3.map (·.1))).map (fun x => decide x.2.Nodup && laidRowsB Tryz.prog ((laidW os).forCall (fun _ _ => 0) ⟨#[], args, []⟩).memory x.2) = some true := by kernel_rfl
theorem laidW_met (os : Os) (args : Array Value) : laidMetH Tryz.prog laid3 ((laidW os).forCall (fun _ _ => 0) ⟨#[], args, []⟩).memory := by
  rw [MakeChecks.laidMetH_plain _ _ _ (by kernel_rfl)]
  exact laidMet_of_run' 8 (laidW_run1 os args) (laidW_run2 os args)
set_option maxHeartbeats 0 in
theorem laidW_var (os : Os) (args : Array Value) : ((laidW os).forCall (fun _ _ => 0) ⟨#[], args, []⟩).variablesRefB Tryz.prog = true := by kernel_rfl
set_option maxHeartbeats 0 in
theorem laidW_tail (os : Os) (args : Array Value) : (((laidW os).forCall (fun _ _ => 0) ⟨#[], args, []⟩).heap.toList.drop Tryz.prog.globals.size).take ((begin Tryz.prog (fun _ _ => 0) default).world.heap.size - Tryz.prog.globals.size) = (begin Tryz.prog (fun _ _ => 0) default).world.heap.toList.drop Tryz.prog.globals.size := by kernel_rfl
theorem laidW_shaped (os : Os) (args : Array Value) : ((laidW os).forCall (fun _ _ => 0) ⟨#[], args, []⟩).Shaped Tryz.prog := World.shaped_of_RefB (laidW_var os args) (laidW_tail os args)
end Go.Proofs.YtbolhpgffkdacaaGreatDoor
