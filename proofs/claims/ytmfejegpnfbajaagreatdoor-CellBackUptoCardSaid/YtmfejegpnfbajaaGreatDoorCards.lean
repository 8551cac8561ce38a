/-
  DERIVED. GIVEN WITH THE SEED: THE CARDS: each row of YtmfejegpnfbajaaGreatDoorRows.lean that lists a variable, with what it lists TIED to the program's text (the seventh form; the later family's looks); each row that meets fmt, with fmt's text TOLD by the authors' own Lean function (tested against real Go, not proved from fmt's source: count such statements apart). THE CARD IS WHAT COUNTS. Prove the row's statement (the work); the ties are given (YtmfejegpnfbajaaGreatDoorTie.lean); close each card by the builder's one call (the guide's Derived/Test/ToyasCard.lean, 'card_holds'). Laid BY PROGRAM, IN A SANDBOX (cutbox-door.mjs). By AI agents, Wed Nov 11 2026. No macro, syntax, notation, axiom, sorry.
-/
import Derived.Test.YtmfejegpnfbajaaGreatDoorRows
import GoSem.ClaimSeven
namespace Go.Proofs.YtmfejegpnfbajaaGreatDoor
namespace Rows

/-- THE TIED CARD OF 'weirlaw23.CellNames'. -/
def cellNamesCard : Claim7 := { stood := { row := cellNamesRow, standIns := [], harness := (true, "28a3dec2f81ed32c8603788cd63558a9d364e882ad9baccdd283c4b4af62ed43"), looks := true }, kinds := [], alts := [], laidByText := true, laidKinds := [.data, .data, .data, .data, .handle, .sentinel, .sentinel, .data, .pinned], laidTests := true, laidLooks := .later }
def CellNamesCardSaid : Prop := Claim7.holds Tryz.pinned (.plain (OpenSpec.ofChange cellNamesSpec)) cellNamesCard

/-- THE TIED CARD OF 'weirlaw23.CellBack'. -/
def cellBackCard : Claim7 := { stood := { row := cellBackRow, standIns := [], harness := (true, "28a3dec2f81ed32c8603788cd63558a9d364e882ad9baccdd283c4b4af62ed43"), looks := true }, kinds := [], alts := [], laidByText := true, laidKinds := [.data, .data, .data, .data, .handle, .sentinel, .sentinel, .data, .pinned], laidTests := true, laidLooks := .later }
def CellBackCardSaid : Prop := Claim7.holds Tryz.pinned (.plain (OpenSpec.ofChange cellBackSpec)) cellBackCard

/-- THE SECOND FORM's CARD OF 'weirlaw23.CellNames'. -/
def cellNamesUptoCard : Claim7 := { stood := { row := cellNamesUptoRow, standIns := [], harness := (true, "28a3dec2f81ed32c8603788cd63558a9d364e882ad9baccdd283c4b4af62ed43"), looks := true }, kinds := [], alts := [], laidByText := true, laidKinds := [.data, .data, .data, .data, .handle, .sentinel, .sentinel, .data, .pinned], laidTests := true, laidLooks := .later }
def CellNamesUptoCardSaid : Prop := Claim7.holds Tryz.pinned (.plain (OpenSpec.upto cellNamesSpec)) cellNamesUptoCard

/-- THE SECOND FORM's CARD OF 'weirlaw23.CellBack'. -/
def cellBackUptoCard : Claim7 := { stood := { row := cellBackUptoRow, standIns := [], harness := (true, "28a3dec2f81ed32c8603788cd63558a9d364e882ad9baccdd283c4b4af62ed43"), looks := true }, kinds := [], alts := [], laidByText := true, laidKinds := [.data, .data, .data, .data, .handle, .sentinel, .sentinel, .data, .pinned], laidTests := true, laidLooks := .later }
def CellBackUptoCardSaid : Prop := Claim7.holds Tryz.pinned (.plain (OpenSpec.upto cellBackSpec)) cellBackUptoCard
end Rows
end Go.Proofs.YtmfejegpnfbajaaGreatDoor
