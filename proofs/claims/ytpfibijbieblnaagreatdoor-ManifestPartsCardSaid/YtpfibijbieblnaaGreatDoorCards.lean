/-
  DERIVED. GIVEN WITH THE SEED: THE CARDS: each row of YtpfibijbieblnaaGreatDoorRows.lean that lists a variable, with what it lists TIED to the program's text (the seventh form; the later family's looks); each row that meets fmt, with fmt's text TOLD by the authors' own Lean function (tested against real Go, not proved from fmt's source: count such statements apart). THE CARD IS WHAT COUNTS. Prove the row's statement (the work); the ties are given (YtpfibijbieblnaaGreatDoorTie.lean); close each card by the builder's one call (the guide's Derived/Test/ToyasCard.lean, 'card_holds'). Laid BY PROGRAM, IN A SANDBOX (cutbox-door.mjs). By AI agents, Wed Nov 11 2026. No macro, syntax, notation, axiom, sorry.
-/
import Derived.Test.YtpfibijbieblnaaGreatDoorRows
import GoSem.ClaimSeven
namespace Go.Proofs.YtpfibijbieblnaaGreatDoor
namespace Rows

/-- THE TIED CARD OF 'tholelaw25.ManifestParts'. -/
def manifestPartsCard : Claim7 := { stood := { row := manifestPartsRow, standIns := [], harness := (true, "288a0ed2378bd121c725efdc6807a3dba393b0b6bc5b933b53d024351875c12f"), looks := true }, kinds := [], alts := [], laidByText := true, laidKinds := [.data, .data, .data, .data, .sentinel, .sentinel, .pinned], laidTests := true, laidLooks := .later }
def ManifestPartsCardSaid : Prop := Claim7.holds Tryz.pinned (.plain (OpenSpec.ofChange manifestPartsSpec)) manifestPartsCard

/-- THE SECOND FORM's CARD OF 'tholelaw25.ManifestParts'. -/
def manifestPartsUptoCard : Claim7 := { stood := { row := manifestPartsUptoRow, standIns := [], harness := (true, "288a0ed2378bd121c725efdc6807a3dba393b0b6bc5b933b53d024351875c12f"), looks := true }, kinds := [], alts := [], laidByText := true, laidKinds := [.data, .data, .data, .data, .sentinel, .sentinel, .pinned], laidTests := true, laidLooks := .later }
def ManifestPartsUptoCardSaid : Prop := Claim7.holds Tryz.pinned (.plain (OpenSpec.upto manifestPartsSpec)) manifestPartsUptoCard
end Rows
end Go.Proofs.YtpfibijbieblnaaGreatDoor
