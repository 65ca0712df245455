/-
  No cell of these rows narrows 'for every input' (looked for: loops, veiled, ifaces, maps, wideKeys, modest, calm, conditions, laid).
  DERIVED. THE GIVEN ROWS OF THIS SEAT. 11 by the template 'for every input the law returns true; each argument reads behind the call as it read before'; 0 by the template 'total and deterministic' (their statements: YtkgbeihcepociaaTotals.lean).
  GIVEN WITH THE SEED: the statements are not yours to turn. If you find one false, say at which input.
  Laid BY PROGRAM, IN A SANDBOX (cutbox-rows.mjs): the forced cells as the released guide's own fill.sh prints them over the translation 1b31c733f94fa2ea… (all of the seat's roots in one cut). By AI agents, Wed Nov 11 2026. No macro, syntax, notation, axiom, sorry.
-/
import Derived.Test.YtkgbeihcepociaaChecked
import GoSem.Claim
import GoSem.ClaimJoined
import GoSem.ClaimMapViews
import Derived.JoinedTies
import Derived.KernelRfl
namespace Go.Proofs.Ytkgbeihcepociaa
/- THE CELL 'sum', in the pinned program and in every row, IS THE sha256 OF THE DUMP (.gsa) THAT YtkgbeihcepociaaProg.lean LOADS. Nothing in Lean hashes anything: it is a label: what it is worth is what the hold of that sum in a sandbox is worth. -/
noncomputable def Try.pinned : Pinned := { name := "ytkgbeihcepociaa", sum := "1b31c733f94fa2eadb2347e27d447c661b98e6bee791f85b77b864c82d3dbce2", checked := Try.checked }
namespace Rows
def none {H : Type} : Left H := { results := [], args := [] }

/-- 'tholelaw10.OsdmapPlays': WHATEVER THE INPUT: true; the input reads as it did. -/
def osdmapPlaysSpec : ChangeSpec := { name := "osdmapPlays", fn := fun _ => fun
  | [d] => { results := [.lit (.bool true)], args := [d] }
  | _ => none }
def osdmapPlaysRow : OpenClaim := { program := "ytkgbeihcepociaa", sum := "1b31c733f94fa2eadb2347e27d447c661b98e6bee791f85b77b864c82d3dbce2", func := "thole/tholelaw10.OsdmapPlays", spec := "osdmapPlays", inPlace := ["slices.overlaps[thole/api.Pool]"], unfollowed := true, recurses := true, apart := false }
def OsdmapPlaysSaid : Prop := osdmapPlaysRow.holds Try.pinned (OpenSpec.ofChange osdmapPlaysSpec)

/-- ITS FALSE NEIGHBOUR: 'it returns false'. Refute it at one input. -/
def osdmapPlaysWrong : ChangeSpec := { name := "osdmapPlays", fn := fun _ => fun
  | [d] => { results := [.lit (.bool false)], args := [d] }
  | _ => none }
def OsdmapPlaysWrongFalsely : Prop := osdmapPlaysRow.holds Try.pinned (OpenSpec.ofChange osdmapPlaysWrong)

/-- 'tholelaw10.OsdmapDiffs': WHATEVER THE INPUT: true; the input reads as it did. -/
def osdmapDiffsSpec : ChangeSpec := { name := "osdmapDiffs", fn := fun _ => fun
  | [d1, d2] => { results := [.lit (.bool true)], args := [d1, d2] }
  | _ => none }
def osdmapDiffsRow : OpenClaim := { program := "ytkgbeihcepociaa", sum := "1b31c733f94fa2eadb2347e27d447c661b98e6bee791f85b77b864c82d3dbce2", func := "thole/tholelaw10.OsdmapDiffs", spec := "osdmapDiffs", inPlace := ["slices.overlaps[thole/api.Pool]"], unfollowed := true, recurses := true, apart := false }
def OsdmapDiffsSaid : Prop := osdmapDiffsRow.holds Try.pinned (OpenSpec.ofChange osdmapDiffsSpec)

/-- ITS FALSE NEIGHBOUR: 'it returns false'. Refute it at one input. -/
def osdmapDiffsWrong : ChangeSpec := { name := "osdmapDiffs", fn := fun _ => fun
  | [d1, d2] => { results := [.lit (.bool false)], args := [d1, d2] }
  | _ => none }
def OsdmapDiffsWrongFalsely : Prop := osdmapDiffsRow.holds Try.pinned (OpenSpec.ofChange osdmapDiffsWrong)

/-- 'tholelaw10.OsdmapFinds': WHATEVER THE INPUT: true; the input reads as it did. -/
def osdmapFindsSpec : ChangeSpec := { name := "osdmapFinds", fn := fun _ => fun
  | [d1, d2] => { results := [.lit (.bool true)], args := [d1, d2] }
  | _ => none }
def osdmapFindsRow : OpenClaim := { program := "ytkgbeihcepociaa", sum := "1b31c733f94fa2eadb2347e27d447c661b98e6bee791f85b77b864c82d3dbce2", func := "thole/tholelaw10.OsdmapFinds", spec := "osdmapFinds", inPlace := ["slices.overlaps[thole/api.Pool]"], unfollowed := true, recurses := true, apart := false }
def OsdmapFindsSaid : Prop := osdmapFindsRow.holds Try.pinned (OpenSpec.ofChange osdmapFindsSpec)

/-- ITS FALSE NEIGHBOUR: 'it returns false'. Refute it at one input. -/
def osdmapFindsWrong : ChangeSpec := { name := "osdmapFinds", fn := fun _ => fun
  | [d1, d2] => { results := [.lit (.bool false)], args := [d1, d2] }
  | _ => none }
def OsdmapFindsWrongFalsely : Prop := osdmapFindsRow.holds Try.pinned (OpenSpec.ofChange osdmapFindsWrong)

/-- 'tholelaw09.PlaceSame': WHATEVER THE INPUT: true; the input reads as it did. -/
def placeSameSpec : ChangeSpec := { name := "placeSame", fn := fun _ => fun
  | [d1, d2, d3] => { results := [.lit (.bool true)], args := [d1, d2, d3] }
  | _ => none }
def placeSameRow : OpenClaim := { program := "ytkgbeihcepociaa", sum := "1b31c733f94fa2eadb2347e27d447c661b98e6bee791f85b77b864c82d3dbce2", func := "thole/tholelaw09.PlaceSame", spec := "placeSame", unfollowed := true, recurses := true, apart := false }
def PlaceSameSaid : Prop := placeSameRow.holds Try.pinned (OpenSpec.ofChange placeSameSpec)

/-- ITS FALSE NEIGHBOUR: 'it returns false'. Refute it at one input. -/
def placeSameWrong : ChangeSpec := { name := "placeSame", fn := fun _ => fun
  | [d1, d2, d3] => { results := [.lit (.bool false)], args := [d1, d2, d3] }
  | _ => none }
def PlaceSameWrongFalsely : Prop := placeSameRow.holds Try.pinned (OpenSpec.ofChange placeSameWrong)

/-- 'tholelaw15.IntervalAll': WHATEVER THE INPUT: true; the input reads as it did. -/
def intervalAllSpec : ChangeSpec := { name := "intervalAll", fn := fun _ => fun
  | [d1, d2] => { results := [.lit (.bool true)], args := [d1, d2] }
  | _ => none }
def intervalAllRow : OpenClaim := { program := "ytkgbeihcepociaa", sum := "1b31c733f94fa2eadb2347e27d447c661b98e6bee791f85b77b864c82d3dbce2", func := "thole/tholelaw15.IntervalAll", spec := "intervalAll", unfollowed := true, recurses := true, apart := false }
def IntervalAllSaid : Prop := intervalAllRow.holds Try.pinned (OpenSpec.ofChange intervalAllSpec)

/-- ITS FALSE NEIGHBOUR: 'it returns false'. Refute it at one input. -/
def intervalAllWrong : ChangeSpec := { name := "intervalAll", fn := fun _ => fun
  | [d1, d2] => { results := [.lit (.bool false)], args := [d1, d2] }
  | _ => none }
def IntervalAllWrongFalsely : Prop := intervalAllRow.holds Try.pinned (OpenSpec.ofChange intervalAllWrong)

/-- 'tholelaw15.IntervalPrior': WHATEVER THE INPUT: true; the input reads as it did. -/
def intervalPriorSpec : ChangeSpec := { name := "intervalPrior", fn := fun _ => fun
  | [d1, d2, d3] => { results := [.lit (.bool true)], args := [d1, d2, d3] }
  | _ => none }
def intervalPriorRow : OpenClaim := { program := "ytkgbeihcepociaa", sum := "1b31c733f94fa2eadb2347e27d447c661b98e6bee791f85b77b864c82d3dbce2", func := "thole/tholelaw15.IntervalPrior", spec := "intervalPrior", unfollowed := true, recurses := true, apart := false }
def IntervalPriorSaid : Prop := intervalPriorRow.holds Try.pinned (OpenSpec.ofChange intervalPriorSpec)

/-- ITS FALSE NEIGHBOUR: 'it returns false'. Refute it at one input. -/
def intervalPriorWrong : ChangeSpec := { name := "intervalPrior", fn := fun _ => fun
  | [d1, d2, d3] => { results := [.lit (.bool false)], args := [d1, d2, d3] }
  | _ => none }
def IntervalPriorWrongFalsely : Prop := intervalPriorRow.holds Try.pinned (OpenSpec.ofChange intervalPriorWrong)

/-- 'tholelaw15.IntervalAsks': WHATEVER THE INPUT: true; the input reads as it did. -/
def intervalAsksSpec : ChangeSpec := { name := "intervalAsks", fn := fun _ => fun
  | [d1, d2, d3] => { results := [.lit (.bool true)], args := [d1, d2, d3] }
  | _ => none }
def intervalAsksRow : OpenClaim := { program := "ytkgbeihcepociaa", sum := "1b31c733f94fa2eadb2347e27d447c661b98e6bee791f85b77b864c82d3dbce2", func := "thole/tholelaw15.IntervalAsks", spec := "intervalAsks", unfollowed := true, recurses := true, apart := false }
def IntervalAsksSaid : Prop := intervalAsksRow.holds Try.pinned (OpenSpec.ofChange intervalAsksSpec)

/-- ITS FALSE NEIGHBOUR: 'it returns false'. Refute it at one input. -/
def intervalAsksWrong : ChangeSpec := { name := "intervalAsks", fn := fun _ => fun
  | [d1, d2, d3] => { results := [.lit (.bool false)], args := [d1, d2, d3] }
  | _ => none }
def IntervalAsksWrongFalsely : Prop := intervalAsksRow.holds Try.pinned (OpenSpec.ofChange intervalAsksWrong)

/-- 'tholelaw15.IntervalBack': WHATEVER THE INPUT: true; the input reads as it did. -/
def intervalBackSpec : ChangeSpec := { name := "intervalBack", fn := fun _ => fun
  | [d1, d2, d3] => { results := [.lit (.bool true)], args := [d1, d2, d3] }
  | _ => none }
def intervalBackRow : OpenClaim := { program := "ytkgbeihcepociaa", sum := "1b31c733f94fa2eadb2347e27d447c661b98e6bee791f85b77b864c82d3dbce2", func := "thole/tholelaw15.IntervalBack", spec := "intervalBack", unfollowed := true, recurses := true, apart := false }
def IntervalBackSaid : Prop := intervalBackRow.holds Try.pinned (OpenSpec.ofChange intervalBackSpec)

/-- ITS FALSE NEIGHBOUR: 'it returns false'. Refute it at one input. -/
def intervalBackWrong : ChangeSpec := { name := "intervalBack", fn := fun _ => fun
  | [d1, d2, d3] => { results := [.lit (.bool false)], args := [d1, d2, d3] }
  | _ => none }
def IntervalBackWrongFalsely : Prop := intervalBackRow.holds Try.pinned (OpenSpec.ofChange intervalBackWrong)

/-- 'tholelaw15.IntervalEnough': WHATEVER THE INPUT: true; the input reads as it did. -/
def intervalEnoughSpec : ChangeSpec := { name := "intervalEnough", fn := fun _ => fun
  | [d1, d2] => { results := [.lit (.bool true)], args := [d1, d2] }
  | _ => none }
def intervalEnoughRow : OpenClaim := { program := "ytkgbeihcepociaa", sum := "1b31c733f94fa2eadb2347e27d447c661b98e6bee791f85b77b864c82d3dbce2", func := "thole/tholelaw15.IntervalEnough", spec := "intervalEnough", unfollowed := true, recurses := true, apart := false }
def IntervalEnoughSaid : Prop := intervalEnoughRow.holds Try.pinned (OpenSpec.ofChange intervalEnoughSpec)

/-- ITS FALSE NEIGHBOUR: 'it returns false'. Refute it at one input. -/
def intervalEnoughWrong : ChangeSpec := { name := "intervalEnough", fn := fun _ => fun
  | [d1, d2] => { results := [.lit (.bool false)], args := [d1, d2] }
  | _ => none }
def IntervalEnoughWrongFalsely : Prop := intervalEnoughRow.holds Try.pinned (OpenSpec.ofChange intervalEnoughWrong)

/-- 'tholelaw09.PlaceApart': WHATEVER THE INPUT: true; the input reads as it did. -/
def placeApartSpec : ChangeSpec := { name := "placeApart", fn := fun _ => fun
  | [d1, d2, d3] => { results := [.lit (.bool true)], args := [d1, d2, d3] }
  | _ => none }
def placeApartRow : OpenClaim := { program := "ytkgbeihcepociaa", sum := "1b31c733f94fa2eadb2347e27d447c661b98e6bee791f85b77b864c82d3dbce2", func := "thole/tholelaw09.PlaceApart", spec := "placeApart", unfollowed := true, recurses := true, apart := false }
def PlaceApartSaid : Prop := placeApartRow.holds Try.pinned (OpenSpec.ofChange placeApartSpec)

/-- ITS FALSE NEIGHBOUR: 'it returns false'. Refute it at one input. -/
def placeApartWrong : ChangeSpec := { name := "placeApart", fn := fun _ => fun
  | [d1, d2, d3] => { results := [.lit (.bool false)], args := [d1, d2, d3] }
  | _ => none }
def PlaceApartWrongFalsely : Prop := placeApartRow.holds Try.pinned (OpenSpec.ofChange placeApartWrong)

/-- 'tholelaw09.PlaceActing': WHATEVER THE INPUT: true; the input reads as it did. -/
def placeActingSpec : ChangeSpec := { name := "placeActing", fn := fun _ => fun
  | [d1, d2, d3] => { results := [.lit (.bool true)], args := [d1, d2, d3] }
  | _ => none }
def placeActingRow : OpenClaim := { program := "ytkgbeihcepociaa", sum := "1b31c733f94fa2eadb2347e27d447c661b98e6bee791f85b77b864c82d3dbce2", func := "thole/tholelaw09.PlaceActing", spec := "placeActing", unfollowed := true, recurses := true, apart := false }
def PlaceActingSaid : Prop := placeActingRow.holds Try.pinned (OpenSpec.ofChange placeActingSpec)

/-- ITS FALSE NEIGHBOUR: 'it returns false'. Refute it at one input. -/
def placeActingWrong : ChangeSpec := { name := "placeActing", fn := fun _ => fun
  | [d1, d2, d3] => { results := [.lit (.bool false)], args := [d1, d2, d3] }
  | _ => none }
def PlaceActingWrongFalsely : Prop := placeActingRow.holds Try.pinned (OpenSpec.ofChange placeActingWrong)

/- THE SECOND FORM. 'bulk': how many values and letters a reading holds, each counted each time it is reached (what is shared counts as often as it is met; a slice's spare places count too). A statement '..UptoSaid' is the law's where the arguments, and the package variables that the reading takes, are together of bulk at most 1048576: NARROWER than '..Said'. Prove '..Said' where nothing that the law and all that it calls make is longer than what came in: it says more and counts as full. Else prove '..UptoSaid'. A law counts once. -/
mutual
def uptoBulk {H : Type} : DataW H → Nat
  | .lit (.string bytes) => bytes.length + 1
  | .lit _ => 1
  | .nil => 1
  | .ptr d => uptoBulk d + 1
  | .slice elems spare => uptoBulkAll elems + uptoBulkAll spare + 1
  | .agg parts => uptoBulkAll parts + 1
  | .iface _ d => uptoBulk d + 1
  | .map entries => uptoBulkEntries entries + 1
  | .held _ => 1
def uptoBulkAll {H : Type} : List (DataW H) → Nat
  | [] => 0
  | d :: r => uptoBulk d + uptoBulkAll r
def uptoBulkEntries {H : Type} : List (Lit × DataW H) → Nat
  | [] => 0
  | x :: r => uptoBulkEntry x + uptoBulkEntries r
def uptoBulkEntry {H : Type} : Lit × DataW H → Nat
  | (.string bytes, d) => bytes.length + uptoBulk d + 1
  | (_, d) => uptoBulk d + 1
 end
def uptoSmall : (H : Type) → List (DataW H) → Bool := fun _ ds => decide (uptoBulkAll ds ≤ 1048576)
def OpenSpec.upto (s : _root_.Go.ChangeSpec) : _root_.Go.OpenSpec := { _root_.Go.OpenSpec.ofChange s with cond := some uptoSmall }

/-- 'tholelaw10.OsdmapPlays', WHERE WHAT IT READS IS OF BULK AT MOST 1048576: true; the input reads as it did. -/
def osdmapPlaysUptoRow : OpenClaim := { program := "ytkgbeihcepociaa", sum := "1b31c733f94fa2eadb2347e27d447c661b98e6bee791f85b77b864c82d3dbce2", func := "thole/tholelaw10.OsdmapPlays", spec := "osdmapPlays", inPlace := ["slices.overlaps[thole/api.Pool]"], unfollowed := true, recurses := true, apart := false, narrowed := true }
def OsdmapPlaysUptoSaid : Prop := osdmapPlaysUptoRow.holds Try.pinned (OpenSpec.upto osdmapPlaysSpec)

/-- 'tholelaw10.OsdmapDiffs', WHERE WHAT IT READS IS OF BULK AT MOST 1048576: true; the input reads as it did. -/
def osdmapDiffsUptoRow : OpenClaim := { program := "ytkgbeihcepociaa", sum := "1b31c733f94fa2eadb2347e27d447c661b98e6bee791f85b77b864c82d3dbce2", func := "thole/tholelaw10.OsdmapDiffs", spec := "osdmapDiffs", inPlace := ["slices.overlaps[thole/api.Pool]"], unfollowed := true, recurses := true, apart := false, narrowed := true }
def OsdmapDiffsUptoSaid : Prop := osdmapDiffsUptoRow.holds Try.pinned (OpenSpec.upto osdmapDiffsSpec)

/-- 'tholelaw10.OsdmapFinds', WHERE WHAT IT READS IS OF BULK AT MOST 1048576: true; the input reads as it did. -/
def osdmapFindsUptoRow : OpenClaim := { program := "ytkgbeihcepociaa", sum := "1b31c733f94fa2eadb2347e27d447c661b98e6bee791f85b77b864c82d3dbce2", func := "thole/tholelaw10.OsdmapFinds", spec := "osdmapFinds", inPlace := ["slices.overlaps[thole/api.Pool]"], unfollowed := true, recurses := true, apart := false, narrowed := true }
def OsdmapFindsUptoSaid : Prop := osdmapFindsUptoRow.holds Try.pinned (OpenSpec.upto osdmapFindsSpec)

/-- 'tholelaw09.PlaceSame', WHERE WHAT IT READS IS OF BULK AT MOST 1048576: true; the input reads as it did. -/
def placeSameUptoRow : OpenClaim := { program := "ytkgbeihcepociaa", sum := "1b31c733f94fa2eadb2347e27d447c661b98e6bee791f85b77b864c82d3dbce2", func := "thole/tholelaw09.PlaceSame", spec := "placeSame", unfollowed := true, recurses := true, apart := false, narrowed := true }
def PlaceSameUptoSaid : Prop := placeSameUptoRow.holds Try.pinned (OpenSpec.upto placeSameSpec)

/-- 'tholelaw15.IntervalAll', WHERE WHAT IT READS IS OF BULK AT MOST 1048576: true; the input reads as it did. -/
def intervalAllUptoRow : OpenClaim := { program := "ytkgbeihcepociaa", sum := "1b31c733f94fa2eadb2347e27d447c661b98e6bee791f85b77b864c82d3dbce2", func := "thole/tholelaw15.IntervalAll", spec := "intervalAll", unfollowed := true, recurses := true, apart := false, narrowed := true }
def IntervalAllUptoSaid : Prop := intervalAllUptoRow.holds Try.pinned (OpenSpec.upto intervalAllSpec)

/-- 'tholelaw15.IntervalPrior', WHERE WHAT IT READS IS OF BULK AT MOST 1048576: true; the input reads as it did. -/
def intervalPriorUptoRow : OpenClaim := { program := "ytkgbeihcepociaa", sum := "1b31c733f94fa2eadb2347e27d447c661b98e6bee791f85b77b864c82d3dbce2", func := "thole/tholelaw15.IntervalPrior", spec := "intervalPrior", unfollowed := true, recurses := true, apart := false, narrowed := true }
def IntervalPriorUptoSaid : Prop := intervalPriorUptoRow.holds Try.pinned (OpenSpec.upto intervalPriorSpec)

/-- 'tholelaw15.IntervalAsks', WHERE WHAT IT READS IS OF BULK AT MOST 1048576: true; the input reads as it did. -/
def intervalAsksUptoRow : OpenClaim := { program := "ytkgbeihcepociaa", sum := "1b31c733f94fa2eadb2347e27d447c661b98e6bee791f85b77b864c82d3dbce2", func := "thole/tholelaw15.IntervalAsks", spec := "intervalAsks", unfollowed := true, recurses := true, apart := false, narrowed := true }
def IntervalAsksUptoSaid : Prop := intervalAsksUptoRow.holds Try.pinned (OpenSpec.upto intervalAsksSpec)

/-- 'tholelaw15.IntervalBack', WHERE WHAT IT READS IS OF BULK AT MOST 1048576: true; the input reads as it did. -/
def intervalBackUptoRow : OpenClaim := { program := "ytkgbeihcepociaa", sum := "1b31c733f94fa2eadb2347e27d447c661b98e6bee791f85b77b864c82d3dbce2", func := "thole/tholelaw15.IntervalBack", spec := "intervalBack", unfollowed := true, recurses := true, apart := false, narrowed := true }
def IntervalBackUptoSaid : Prop := intervalBackUptoRow.holds Try.pinned (OpenSpec.upto intervalBackSpec)

/-- 'tholelaw15.IntervalEnough', WHERE WHAT IT READS IS OF BULK AT MOST 1048576: true; the input reads as it did. -/
def intervalEnoughUptoRow : OpenClaim := { program := "ytkgbeihcepociaa", sum := "1b31c733f94fa2eadb2347e27d447c661b98e6bee791f85b77b864c82d3dbce2", func := "thole/tholelaw15.IntervalEnough", spec := "intervalEnough", unfollowed := true, recurses := true, apart := false, narrowed := true }
def IntervalEnoughUptoSaid : Prop := intervalEnoughUptoRow.holds Try.pinned (OpenSpec.upto intervalEnoughSpec)

/-- 'tholelaw09.PlaceApart', WHERE WHAT IT READS IS OF BULK AT MOST 1048576: true; the input reads as it did. -/
def placeApartUptoRow : OpenClaim := { program := "ytkgbeihcepociaa", sum := "1b31c733f94fa2eadb2347e27d447c661b98e6bee791f85b77b864c82d3dbce2", func := "thole/tholelaw09.PlaceApart", spec := "placeApart", unfollowed := true, recurses := true, apart := false, narrowed := true }
def PlaceApartUptoSaid : Prop := placeApartUptoRow.holds Try.pinned (OpenSpec.upto placeApartSpec)

/-- 'tholelaw09.PlaceActing', WHERE WHAT IT READS IS OF BULK AT MOST 1048576: true; the input reads as it did. -/
def placeActingUptoRow : OpenClaim := { program := "ytkgbeihcepociaa", sum := "1b31c733f94fa2eadb2347e27d447c661b98e6bee791f85b77b864c82d3dbce2", func := "thole/tholelaw09.PlaceActing", spec := "placeActing", unfollowed := true, recurses := true, apart := false, narrowed := true }
def PlaceActingUptoSaid : Prop := placeActingUptoRow.holds Try.pinned (OpenSpec.upto placeActingSpec)

end Rows
end Go.Proofs.Ytkgbeihcepociaa
