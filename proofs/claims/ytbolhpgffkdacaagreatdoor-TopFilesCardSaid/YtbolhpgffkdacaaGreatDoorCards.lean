/-
  DERIVED. GIVEN WITH THE SEED: THE CARDS: each row of YtbolhpgffkdacaaGreatDoorRows.lean that lists a variable, with what it lists TIED to the program's text (the seventh form; the later family's looks); each row that meets fmt, with fmt's text TOLD by the authors' own Lean function (tested against real Go, not proved from fmt's source: count such statements apart). THE CARD IS WHAT COUNTS. Prove the row's statement (the work); the ties are given (YtbolhpgffkdacaaGreatDoorTie.lean); close each card by the builder's one call (the guide's Derived/Test/ToyasCard.lean, 'card_holds'). Laid BY PROGRAM, IN A SANDBOX (cutbox-door.mjs). By AI agents, Wed Nov 11 2026. No macro, syntax, notation, axiom, sorry.
-/
import Derived.Test.YtbolhpgffkdacaaGreatDoorRows
import GoSem.ClaimSeven
namespace Go.Proofs.YtbolhpgffkdacaaGreatDoor
namespace Rows

/-- THE TIED CARD OF 'daguerretop.TopStack'. -/
def topStackCard : Claim7 := { stood := { row := topStackRow, standIns := [], harness := (true, "ea9dcfd51b538f2affb428d11dd772afe4b8210c50b3b5b75879808e628005aa"), looks := true }, kinds := [], alts := [], laidByText := true, laidKinds := [.data, .data, .data], laidTests := true, laidLooks := .later }
def TopStackCardSaid : Prop := Claim7.holds Tryz.pinned (.plain (OpenSpec.ofChange topStackSpec)) topStackCard

/-- THE TIED CARD OF 'daguerretop.TopFiles'. -/
def topFilesCard : Claim7 := { stood := { row := topFilesRow, standIns := [], harness := (true, "ea9dcfd51b538f2affb428d11dd772afe4b8210c50b3b5b75879808e628005aa"), looks := true }, kinds := [], alts := [], laidByText := true, laidKinds := [.data, .data, .data], laidTests := true, laidLooks := .later }
def TopFilesCardSaid : Prop := Claim7.holds Tryz.pinned (.plain (OpenSpec.ofChange topFilesSpec)) topFilesCard

/-- THE SECOND FORM's CARD OF 'daguerretop.TopStack'. -/
def topStackUptoCard : Claim7 := { stood := { row := topStackUptoRow, standIns := [], harness := (true, "ea9dcfd51b538f2affb428d11dd772afe4b8210c50b3b5b75879808e628005aa"), looks := true }, kinds := [], alts := [], laidByText := true, laidKinds := [.data, .data, .data], laidTests := true, laidLooks := .later }
def TopStackUptoCardSaid : Prop := Claim7.holds Tryz.pinned (.plain (OpenSpec.upto topStackSpec)) topStackUptoCard

/-- THE SECOND FORM's CARD OF 'daguerretop.TopFiles'. -/
def topFilesUptoCard : Claim7 := { stood := { row := topFilesUptoRow, standIns := [], harness := (true, "ea9dcfd51b538f2affb428d11dd772afe4b8210c50b3b5b75879808e628005aa"), looks := true }, kinds := [], alts := [], laidByText := true, laidKinds := [.data, .data, .data], laidTests := true, laidLooks := .later }
def TopFilesUptoCardSaid : Prop := Claim7.holds Tryz.pinned (.plain (OpenSpec.upto topFilesSpec)) topFilesUptoCard
end Rows
end Go.Proofs.YtbolhpgffkdacaaGreatDoor
