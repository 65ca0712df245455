/- The run of the law StoreNone, whatever its arguments. -/
import Derived.Test.YtfchbkmegicfoacGreatExTab
set_option linter.unusedSimpArgs false
set_option linter.unusedVariables false
namespace Go.Proofs.YtfchbkmegicfoacGreat

set_option maxRecDepth 100000 in
theorem storeNone_run : Ex.isTrue (Ex.ex Tryz.prog (Ex.tabOf Tryz.prog Ex.NT0) Ex.S0 100000 (.call 3 [.agg ((List.range' 0 8).map .ext)] none) .nil) = true := by decide +kernel

end Go.Proofs.YtfchbkmegicfoacGreat
