/-
  DERIVED. GIVEN WITH THE SEED: THE CARDS: each row of YtopeilhdddiapaaGreatDoorRows.lean that lists a variable, with what it lists TIED to the program's text (the seventh form; the later family's looks); each row that meets fmt, with fmt's text TOLD by the authors' own Lean function (tested against real Go, not proved from fmt's source: count such statements apart). THE CARD IS WHAT COUNTS. Prove the row's statement (the work); the ties are given (YtopeilhdddiapaaGreatDoorTie.lean); close each card by the builder's one call (the guide's Derived/Test/ToyasCard.lean, 'card_holds'). Laid BY PROGRAM, IN A SANDBOX (cutbox-door.mjs). By AI agents, Wed Nov 11 2026. No macro, syntax, notation, axiom, sorry.
-/
import Derived.Test.YtopeilhdddiapaaGreatDoorRows
import GoSem.ClaimSeven
namespace Go.Proofs.YtopeilhdddiapaaGreatDoor
namespace Rows

/-- THE TIED CARD OF 'tholelaw25.ManifestNames'. -/
def manifestNamesCard : Claim7 := { stood := { row := manifestNamesRow, standIns := [], harness := (true, "b9f63ed8958f5c6ffbbde45564a4032d66e7bb9c26aae8bc912a9e2250115b21"), looks := true }, kinds := [], alts := [], laidByText := true, laidKinds := [.data, .data, .data, .data, .sentinel, .sentinel, .pinned], laidTests := true, laidLooks := .later }
def ManifestNamesCardSaid : Prop := Claim7.holds Tryz.pinned (.plain (OpenSpec.ofChange manifestNamesSpec)) manifestNamesCard

/-- THE TIED CARD OF 'tholelaw25.ManifestIds'. -/
def manifestIdsCard : Claim7 := { stood := { row := manifestIdsRow, standIns := [], harness := (true, "b9f63ed8958f5c6ffbbde45564a4032d66e7bb9c26aae8bc912a9e2250115b21"), looks := true }, kinds := [], alts := [], laidByText := true, laidKinds := [.data, .data, .data, .data, .sentinel, .sentinel, .pinned], laidTests := true, laidLooks := .later }
def ManifestIdsCardSaid : Prop := Claim7.holds Tryz.pinned (.plain (OpenSpec.ofChange manifestIdsSpec)) manifestIdsCard

/-- THE SECOND FORM's CARD OF 'tholelaw25.ManifestNames'. -/
def manifestNamesUptoCard : Claim7 := { stood := { row := manifestNamesUptoRow, standIns := [], harness := (true, "b9f63ed8958f5c6ffbbde45564a4032d66e7bb9c26aae8bc912a9e2250115b21"), looks := true }, kinds := [], alts := [], laidByText := true, laidKinds := [.data, .data, .data, .data, .sentinel, .sentinel, .pinned], laidTests := true, laidLooks := .later }
def ManifestNamesUptoCardSaid : Prop := Claim7.holds Tryz.pinned (.plain (OpenSpec.upto manifestNamesSpec)) manifestNamesUptoCard

/-- THE SECOND FORM's CARD OF 'tholelaw25.ManifestIds'. -/
def manifestIdsUptoCard : Claim7 := { stood := { row := manifestIdsUptoRow, standIns := [], harness := (true, "b9f63ed8958f5c6ffbbde45564a4032d66e7bb9c26aae8bc912a9e2250115b21"), looks := true }, kinds := [], alts := [], laidByText := true, laidKinds := [.data, .data, .data, .data, .sentinel, .sentinel, .pinned], laidTests := true, laidLooks := .later }
def ManifestIdsUptoCardSaid : Prop := Claim7.holds Tryz.pinned (.plain (OpenSpec.upto manifestIdsSpec)) manifestIdsUptoCard
end Rows
end Go.Proofs.YtopeilhdddiapaaGreatDoor
