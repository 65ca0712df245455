/-
  DERIVED. GIVEN WITH THE SEED: THE CARDS: each row of YtkgbeihcepociaaDoorRows.lean that lists a variable, with what it lists TIED to the program's text (the seventh form; the later family's looks); each row that meets fmt, with fmt's text TOLD by the authors' own Lean function (tested against real Go, not proved from fmt's source: count such statements apart). THE CARD IS WHAT COUNTS. Prove the row's statement (the work); the ties are given (YtkgbeihcepociaaDoorTie.lean); close each card by the builder's one call (the guide's Derived/Test/ToyasCard.lean, 'card_holds'). Laid BY PROGRAM, IN A SANDBOX (cutbox-door.mjs). By AI agents, Wed Nov 11 2026. No macro, syntax, notation, axiom, sorry.
-/
import Derived.Test.YtkgbeihcepociaaDoorRows
import GoSem.ClaimSeven
namespace Go.Proofs.YtkgbeihcepociaaDoor
namespace Rows

/-- THE TIED CARD OF 'tholelaw08.CrushSelects'. -/
def crushSelectsCard : Claim7 := { stood := { row := crushSelectsRow, standIns := [], harness := (true, "76916ff0d46763914a59da67164d0f7a40cc91219e1e27cfc717a2bacf930380"), looks := false }, kinds := [], alts := [], laidByText := true, laidKinds := [.data, .data, .data], laidTests := true, laidLooks := .later }
def CrushSelectsCardSaid : Prop := Claim7.holds Tryd.pinned (.plain (OpenSpec.ofChange crushSelectsSpec)) crushSelectsCard

/-- THE TIED CARD OF 'tholelaw08.CrushTrees'. -/
def crushTreesCard : Claim7 := { stood := { row := crushTreesRow, standIns := [], harness := (true, "76916ff0d46763914a59da67164d0f7a40cc91219e1e27cfc717a2bacf930380"), looks := false }, kinds := [], alts := [], laidByText := true, laidKinds := [.data, .data, .data], laidTests := true, laidLooks := .later }
def CrushTreesCardSaid : Prop := Claim7.holds Tryd.pinned (.plain (OpenSpec.ofChange crushTreesSpec)) crushTreesCard

/-- THE TIED CARD OF 'tholelaw08.CrushApart'. -/
def crushApartCard : Claim7 := { stood := { row := crushApartRow, standIns := [], harness := (true, "76916ff0d46763914a59da67164d0f7a40cc91219e1e27cfc717a2bacf930380"), looks := false }, kinds := [], alts := [], laidByText := true, laidKinds := [.data, .data, .data], laidTests := true, laidLooks := .later }
def CrushApartCardSaid : Prop := Claim7.holds Tryd.pinned (.plain (OpenSpec.ofChange crushApartSpec)) crushApartCard

/-- THE TIED CARD OF 'tholelaw08.CrushStable'. -/
def crushStableCard : Claim7 := { stood := { row := crushStableRow, standIns := [], harness := (true, "76916ff0d46763914a59da67164d0f7a40cc91219e1e27cfc717a2bacf930380"), looks := false }, kinds := [], alts := [], laidByText := true, laidKinds := [.data, .data, .data], laidTests := true, laidLooks := .later }
def CrushStableCardSaid : Prop := Claim7.holds Tryd.pinned (.plain (OpenSpec.ofChange crushStableSpec)) crushStableCard

/-- THE SECOND FORM's CARD OF 'tholelaw08.CrushSelects'. -/
def crushSelectsUptoCard : Claim7 := { stood := { row := crushSelectsUptoRow, standIns := [], harness := (true, "76916ff0d46763914a59da67164d0f7a40cc91219e1e27cfc717a2bacf930380"), looks := false }, kinds := [], alts := [], laidByText := true, laidKinds := [.data, .data, .data], laidTests := true, laidLooks := .later }
def CrushSelectsUptoCardSaid : Prop := Claim7.holds Tryd.pinned (.plain (OpenSpec.upto crushSelectsSpec)) crushSelectsUptoCard

/-- THE SECOND FORM's CARD OF 'tholelaw08.CrushTrees'. -/
def crushTreesUptoCard : Claim7 := { stood := { row := crushTreesUptoRow, standIns := [], harness := (true, "76916ff0d46763914a59da67164d0f7a40cc91219e1e27cfc717a2bacf930380"), looks := false }, kinds := [], alts := [], laidByText := true, laidKinds := [.data, .data, .data], laidTests := true, laidLooks := .later }
def CrushTreesUptoCardSaid : Prop := Claim7.holds Tryd.pinned (.plain (OpenSpec.upto crushTreesSpec)) crushTreesUptoCard

/-- THE SECOND FORM's CARD OF 'tholelaw08.CrushApart'. -/
def crushApartUptoCard : Claim7 := { stood := { row := crushApartUptoRow, standIns := [], harness := (true, "76916ff0d46763914a59da67164d0f7a40cc91219e1e27cfc717a2bacf930380"), looks := false }, kinds := [], alts := [], laidByText := true, laidKinds := [.data, .data, .data], laidTests := true, laidLooks := .later }
def CrushApartUptoCardSaid : Prop := Claim7.holds Tryd.pinned (.plain (OpenSpec.upto crushApartSpec)) crushApartUptoCard

/-- THE SECOND FORM's CARD OF 'tholelaw08.CrushStable'. -/
def crushStableUptoCard : Claim7 := { stood := { row := crushStableUptoRow, standIns := [], harness := (true, "76916ff0d46763914a59da67164d0f7a40cc91219e1e27cfc717a2bacf930380"), looks := false }, kinds := [], alts := [], laidByText := true, laidKinds := [.data, .data, .data], laidTests := true, laidLooks := .later }
def CrushStableUptoCardSaid : Prop := Claim7.holds Tryd.pinned (.plain (OpenSpec.upto crushStableSpec)) crushStableUptoCard
end Rows
end Go.Proofs.YtkgbeihcepociaaDoor
