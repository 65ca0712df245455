/-
  DERIVED. GIVEN WITH THE SEED: THE CARDS: each row of YtdcmfchodooolaaGreatDoorRows.lean that lists a variable, with what it lists TIED to the program's text (the seventh form; the later family's looks); each row that meets fmt, with fmt's text TOLD by the authors' own Lean function (tested against real Go, not proved from fmt's source: count such statements apart). THE CARD IS WHAT COUNTS. Prove the row's statement (the work); the ties are given (YtdcmfchodooolaaGreatDoorTie.lean); close each card by the builder's one call (the guide's Derived/Test/ToyasCard.lean, 'card_holds'). Laid BY PROGRAM, IN A SANDBOX (cutbox-door.mjs). By AI agents, Wed Nov 11 2026. No macro, syntax, notation, axiom, sorry.
-/
import Derived.Test.YtdcmfchodooolaaGreatDoorRows
import GoSem.ClaimSeven
namespace Go.Proofs.YtdcmfchodooolaaGreatDoor
namespace Rows

/-- THE TIED CARD OF 'tholelaw25.ManifestRoots'. -/
def manifestRootsCard : Claim7 := { stood := { row := manifestRootsRow, standIns := [], harness := (true, "827c8d0ca917d88a786c0cd353b0ef419f700ca44b1797eee0d4f3377b6dd314"), looks := true }, kinds := [], alts := [], laidByText := true, laidKinds := [.data, .data, .data, .data, .sentinel, .sentinel, .pinned], laidTests := true, laidLooks := .later }
def ManifestRootsCardSaid : Prop := Claim7.holds Tryz.pinned (.plain (OpenSpec.ofChange manifestRootsSpec)) manifestRootsCard

/-- THE SECOND FORM's CARD OF 'tholelaw25.ManifestRoots'. -/
def manifestRootsUptoCard : Claim7 := { stood := { row := manifestRootsUptoRow, standIns := [], harness := (true, "827c8d0ca917d88a786c0cd353b0ef419f700ca44b1797eee0d4f3377b6dd314"), looks := true }, kinds := [], alts := [], laidByText := true, laidKinds := [.data, .data, .data, .data, .sentinel, .sentinel, .pinned], laidTests := true, laidLooks := .later }
def ManifestRootsUptoCardSaid : Prop := Claim7.holds Tryz.pinned (.plain (OpenSpec.upto manifestRootsSpec)) manifestRootsUptoCard
end Rows
end Go.Proofs.YtdcmfchodooolaaGreatDoor
