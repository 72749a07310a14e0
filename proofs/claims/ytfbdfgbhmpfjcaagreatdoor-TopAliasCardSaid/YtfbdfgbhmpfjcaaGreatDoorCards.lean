/-
  DERIVED. GIVEN WITH THE SEED: THE CARDS: each row of YtfbdfgbhmpfjcaaGreatDoorRows.lean that lists a variable, with what it lists TIED to the program's text (the seventh form; the later family's looks); each row that meets fmt, with fmt's text TOLD by the authors' own Lean function (tested against real Go, not proved from fmt's source: count such statements apart). THE CARD IS WHAT COUNTS. Prove the row's statement (the work); the ties are given (YtfbdfgbhmpfjcaaGreatDoorTie.lean); close each card by the builder's one call (the guide's Derived/Test/ToyasCard.lean, 'card_holds'). Laid BY PROGRAM, IN A SANDBOX (cutbox-door.mjs). By AI agents, Wed Nov 11 2026. No macro, syntax, notation, axiom, sorry.
-/
import Derived.Test.YtfbdfgbhmpfjcaaGreatDoorRows
import GoSem.ClaimSeven
namespace Go.Proofs.YtfbdfgbhmpfjcaaGreatDoor
namespace Rows

/-- THE TIED CARD OF 'daguerretop.TopBinary'. -/
def topBinaryCard : Claim7 := { stood := { row := topBinaryRow, standIns := [], harness := (true, "47b4f97ce04b18a205022f5da0ebb183bc0d51311b5d1eaac00ee8780a5f4859"), looks := true }, kinds := [], alts := [], laidByText := true, laidKinds := [.data, .data, .data], laidTests := true, laidLooks := .later }
def TopBinaryCardSaid : Prop := Claim7.holds Tryz.pinned (.plain (OpenSpec.ofChange topBinarySpec)) topBinaryCard

/-- THE TIED CARD OF 'daguerretop.TopShadow'. -/
def topShadowCard : Claim7 := { stood := { row := topShadowRow, standIns := [], harness := (true, "47b4f97ce04b18a205022f5da0ebb183bc0d51311b5d1eaac00ee8780a5f4859"), looks := true }, kinds := [], alts := [], laidByText := true, laidKinds := [.data, .data, .data], laidTests := true, laidLooks := .later }
def TopShadowCardSaid : Prop := Claim7.holds Tryz.pinned (.plain (OpenSpec.ofChange topShadowSpec)) topShadowCard

/-- THE TIED CARD OF 'daguerretop.TopAlias'. -/
def topAliasCard : Claim7 := { stood := { row := topAliasRow, standIns := [], harness := (true, "47b4f97ce04b18a205022f5da0ebb183bc0d51311b5d1eaac00ee8780a5f4859"), looks := true }, kinds := [], alts := [], laidByText := true, laidKinds := [.data, .data, .data], laidTests := true, laidLooks := .later }
def TopAliasCardSaid : Prop := Claim7.holds Tryz.pinned (.plain (OpenSpec.ofChange topAliasSpec)) topAliasCard

/-- THE TIED CARD OF 'daguerretop.TopAround'. -/
def topAroundCard : Claim7 := { stood := { row := topAroundRow, standIns := [], harness := (true, "47b4f97ce04b18a205022f5da0ebb183bc0d51311b5d1eaac00ee8780a5f4859"), looks := true }, kinds := [], alts := [], laidByText := true, laidKinds := [.data, .data, .data], laidTests := true, laidLooks := .later }
def TopAroundCardSaid : Prop := Claim7.holds Tryz.pinned (.plain (OpenSpec.ofChange topAroundSpec)) topAroundCard

/-- THE SECOND FORM's CARD OF 'daguerretop.TopBinary'. -/
def topBinaryUptoCard : Claim7 := { stood := { row := topBinaryUptoRow, standIns := [], harness := (true, "47b4f97ce04b18a205022f5da0ebb183bc0d51311b5d1eaac00ee8780a5f4859"), looks := true }, kinds := [], alts := [], laidByText := true, laidKinds := [.data, .data, .data], laidTests := true, laidLooks := .later }
def TopBinaryUptoCardSaid : Prop := Claim7.holds Tryz.pinned (.plain (OpenSpec.upto topBinarySpec)) topBinaryUptoCard

/-- THE SECOND FORM's CARD OF 'daguerretop.TopShadow'. -/
def topShadowUptoCard : Claim7 := { stood := { row := topShadowUptoRow, standIns := [], harness := (true, "47b4f97ce04b18a205022f5da0ebb183bc0d51311b5d1eaac00ee8780a5f4859"), looks := true }, kinds := [], alts := [], laidByText := true, laidKinds := [.data, .data, .data], laidTests := true, laidLooks := .later }
def TopShadowUptoCardSaid : Prop := Claim7.holds Tryz.pinned (.plain (OpenSpec.upto topShadowSpec)) topShadowUptoCard

/-- THE SECOND FORM's CARD OF 'daguerretop.TopAlias'. -/
def topAliasUptoCard : Claim7 := { stood := { row := topAliasUptoRow, standIns := [], harness := (true, "47b4f97ce04b18a205022f5da0ebb183bc0d51311b5d1eaac00ee8780a5f4859"), looks := true }, kinds := [], alts := [], laidByText := true, laidKinds := [.data, .data, .data], laidTests := true, laidLooks := .later }
def TopAliasUptoCardSaid : Prop := Claim7.holds Tryz.pinned (.plain (OpenSpec.upto topAliasSpec)) topAliasUptoCard

/-- THE SECOND FORM's CARD OF 'daguerretop.TopAround'. -/
def topAroundUptoCard : Claim7 := { stood := { row := topAroundUptoRow, standIns := [], harness := (true, "47b4f97ce04b18a205022f5da0ebb183bc0d51311b5d1eaac00ee8780a5f4859"), looks := true }, kinds := [], alts := [], laidByText := true, laidKinds := [.data, .data, .data], laidTests := true, laidLooks := .later }
def TopAroundUptoCardSaid : Prop := Claim7.holds Tryz.pinned (.plain (OpenSpec.upto topAroundSpec)) topAroundUptoCard
end Rows
end Go.Proofs.YtfbdfgbhmpfjcaaGreatDoor
