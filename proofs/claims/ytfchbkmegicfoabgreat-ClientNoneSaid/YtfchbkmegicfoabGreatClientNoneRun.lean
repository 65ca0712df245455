/- The run of the law ClientNone, whatever its arguments. -/
import Derived.Test.YtfchbkmegicfoabGreatExTab
set_option linter.unusedSimpArgs false
set_option linter.unusedVariables false
namespace Go.Proofs.YtfchbkmegicfoabGreat

set_option maxRecDepth 100000 in
theorem clientNone_run : Ex.isTrue (Ex.ex Tryz.prog (Ex.tabOf Tryz.prog Ex.NT0) Ex.S0 100000 (.call 3 [.agg ((List.range' 0 55).map .ext)] none) .nil) = true := by decide +kernel

end Go.Proofs.YtfchbkmegicfoabGreat
