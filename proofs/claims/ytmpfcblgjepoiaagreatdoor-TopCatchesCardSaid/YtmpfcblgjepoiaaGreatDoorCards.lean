/-
  DERIVED. GIVEN WITH THE SEED: THE CARDS: each row of YtmpfcblgjepoiaaGreatDoorRows.lean that lists a variable, with what it lists TIED to the program's text (the seventh form; the later family's looks); each row that meets fmt, with fmt's text TOLD by the authors' own Lean function (tested against real Go, not proved from fmt's source: count such statements apart). THE CARD IS WHAT COUNTS. Prove the row's statement (the work); the ties are given (YtmpfcblgjepoiaaGreatDoorTie.lean); close each card by the builder's one call (the guide's Derived/Test/ToyasCard.lean, 'card_holds'). Laid BY PROGRAM, IN A SANDBOX (cutbox-door.mjs). By AI agents, Wed Nov 11 2026. No macro, syntax, notation, axiom, sorry.
-/
import Derived.Test.YtmpfcblgjepoiaaGreatDoorRows
import GoSem.ClaimSeven
namespace Go.Proofs.YtmpfcblgjepoiaaGreatDoor
namespace Rows

/-- THE TIED CARD OF 'daguerretop.TopCatches'. -/
def topCatchesCard : Claim7 := { stood := { row := topCatchesRow, standIns := [], harness := (true, "6c4bda4c6b4de8624374782e9772f4bcaa6f7794844474b39c0d6b3e7f1de1ce"), looks := true }, kinds := [], alts := [], laidByText := true, laidKinds := [.data, .data, .data], laidTests := true, laidLooks := .later }
def TopCatchesCardSaid : Prop := Claim7.holds Tryz.pinned (.plain (OpenSpec.ofChange topCatchesSpec)) topCatchesCard

/-- THE TIED CARD OF 'daguerretop.TopHandler'. -/
def topHandlerCard : Claim7 := { stood := { row := topHandlerRow, standIns := [], harness := (true, "6c4bda4c6b4de8624374782e9772f4bcaa6f7794844474b39c0d6b3e7f1de1ce"), looks := true }, kinds := [], alts := [], laidByText := true, laidKinds := [.data, .data, .data], laidTests := true, laidLooks := .later }
def TopHandlerCardSaid : Prop := Claim7.holds Tryz.pinned (.plain (OpenSpec.ofChange topHandlerSpec)) topHandlerCard

/-- THE TIED CARD OF 'daguerretop.TopOnce'. -/
def topOnceCard : Claim7 := { stood := { row := topOnceRow, standIns := [], harness := (true, "6c4bda4c6b4de8624374782e9772f4bcaa6f7794844474b39c0d6b3e7f1de1ce"), looks := true }, kinds := [], alts := [], laidByText := true, laidKinds := [.data, .data, .data], laidTests := true, laidLooks := .later }
def TopOnceCardSaid : Prop := Claim7.holds Tryz.pinned (.plain (OpenSpec.ofChange topOnceSpec)) topOnceCard

/-- THE TIED CARD OF 'daguerretop.TopFiles'. -/
def topFilesCard : Claim7 := { stood := { row := topFilesRow, standIns := [], harness := (true, "6c4bda4c6b4de8624374782e9772f4bcaa6f7794844474b39c0d6b3e7f1de1ce"), looks := true }, kinds := [], alts := [], laidByText := true, laidKinds := [.data, .data, .data], laidTests := true, laidLooks := .later }
def TopFilesCardSaid : Prop := Claim7.holds Tryz.pinned (.plain (OpenSpec.ofChange topFilesSpec)) topFilesCard

/-- THE TIED CARD OF 'daguerretop.TopBelow'. -/
def topBelowCard : Claim7 := { stood := { row := topBelowRow, standIns := [], harness := (true, "6c4bda4c6b4de8624374782e9772f4bcaa6f7794844474b39c0d6b3e7f1de1ce"), looks := true }, kinds := [], alts := [], laidByText := true, laidKinds := [.data, .data, .data], laidTests := true, laidLooks := .later }
def TopBelowCardSaid : Prop := Claim7.holds Tryz.pinned (.plain (OpenSpec.ofChange topBelowSpec)) topBelowCard

/-- THE SECOND FORM's CARD OF 'daguerretop.TopCatches'. -/
def topCatchesUptoCard : Claim7 := { stood := { row := topCatchesUptoRow, standIns := [], harness := (true, "6c4bda4c6b4de8624374782e9772f4bcaa6f7794844474b39c0d6b3e7f1de1ce"), looks := true }, kinds := [], alts := [], laidByText := true, laidKinds := [.data, .data, .data], laidTests := true, laidLooks := .later }
def TopCatchesUptoCardSaid : Prop := Claim7.holds Tryz.pinned (.plain (OpenSpec.upto topCatchesSpec)) topCatchesUptoCard

/-- THE SECOND FORM's CARD OF 'daguerretop.TopHandler'. -/
def topHandlerUptoCard : Claim7 := { stood := { row := topHandlerUptoRow, standIns := [], harness := (true, "6c4bda4c6b4de8624374782e9772f4bcaa6f7794844474b39c0d6b3e7f1de1ce"), looks := true }, kinds := [], alts := [], laidByText := true, laidKinds := [.data, .data, .data], laidTests := true, laidLooks := .later }
def TopHandlerUptoCardSaid : Prop := Claim7.holds Tryz.pinned (.plain (OpenSpec.upto topHandlerSpec)) topHandlerUptoCard

/-- THE SECOND FORM's CARD OF 'daguerretop.TopOnce'. -/
def topOnceUptoCard : Claim7 := { stood := { row := topOnceUptoRow, standIns := [], harness := (true, "6c4bda4c6b4de8624374782e9772f4bcaa6f7794844474b39c0d6b3e7f1de1ce"), looks := true }, kinds := [], alts := [], laidByText := true, laidKinds := [.data, .data, .data], laidTests := true, laidLooks := .later }
def TopOnceUptoCardSaid : Prop := Claim7.holds Tryz.pinned (.plain (OpenSpec.upto topOnceSpec)) topOnceUptoCard

/-- THE SECOND FORM's CARD OF 'daguerretop.TopFiles'. -/
def topFilesUptoCard : Claim7 := { stood := { row := topFilesUptoRow, standIns := [], harness := (true, "6c4bda4c6b4de8624374782e9772f4bcaa6f7794844474b39c0d6b3e7f1de1ce"), looks := true }, kinds := [], alts := [], laidByText := true, laidKinds := [.data, .data, .data], laidTests := true, laidLooks := .later }
def TopFilesUptoCardSaid : Prop := Claim7.holds Tryz.pinned (.plain (OpenSpec.upto topFilesSpec)) topFilesUptoCard

/-- THE SECOND FORM's CARD OF 'daguerretop.TopBelow'. -/
def topBelowUptoCard : Claim7 := { stood := { row := topBelowUptoRow, standIns := [], harness := (true, "6c4bda4c6b4de8624374782e9772f4bcaa6f7794844474b39c0d6b3e7f1de1ce"), looks := true }, kinds := [], alts := [], laidByText := true, laidKinds := [.data, .data, .data], laidTests := true, laidLooks := .later }
def TopBelowUptoCardSaid : Prop := Claim7.holds Tryz.pinned (.plain (OpenSpec.upto topBelowSpec)) topBelowUptoCard
end Rows
end Go.Proofs.YtmpfcblgjepoiaaGreatDoor
